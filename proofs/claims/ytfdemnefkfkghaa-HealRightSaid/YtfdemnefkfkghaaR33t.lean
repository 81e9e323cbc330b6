/- Chapter 33's law: a graph, fixed (the document's); is a graph right? -/
import Derived.Test.YtfdemnefkfkghaaR33s
namespace Go.Proofs.Ytfdemnefkfkghaa.R
open Go Go.Proofs
set_option linter.unusedSimpArgs false
set_option linter.unusedVariables false
set_option maxRecDepth 10000
set_option maxHeartbeats 4000000

theorem at_nil (b : Int) (l : List S95) : at_ b l [] = 1 := rfl
theorem atGo_map {b : Int} {g : Int → Int} : ∀ {l : List S95}, (∃ x ∈ l, x.f0 = b) → atGo b l (l.map fun x => g x.f0) = IntKind.u16.wrap (g b)
  | [], h => by obtain ⟨x, hx, _⟩ := h; simp at hx
  | x :: r, h => by
    simp only [List.map_cons, atGo]
    by_cases hx : x.f0 = b
    · rw [if_pos hx, hx]
    · rw [if_neg hx]
      obtain ⟨y, hy, hyb⟩ := h
      rcases List.mem_cons.1 hy with rfl | hy
      · exact absurd hyb hx
      · exact atGo_map ⟨y, hy, hyb⟩

/-- A call with a list that was just made, and holds nothing. -/
theorem call66e (x : S93) (l : List S95) (hx : fewN x) (hl : fewL l) (k n : Nat) (H : Heap) (hH : H.at? k = some (.buf 1 [] false true)) : ∃ u, (u = [] ∨ u = [(k, some (.buf 1 [] true true))]) ∧
    (callV (LX T fns) n (.clo 66 []) [.agg (k93.enc x), .fz (l.map k95.enc), .ms k 1 0 0 none]).run H [] = some ((.agg (k93.enc (flat x)), u), [k]) := by
  have h := lim66 x l [] hx hl (.inl rfl)
  have e : (fun b => at_ b l []) = fun _ => 1 := rfl
  rw [e] at h
  have hf : fns 66 = some fn66 := rfl
  unfold callV
  simp only [hf]
  unfold callR
  simp only [fn66, k93_enc, List.append_nil, frzArgs, frz, frzAll, frzG, frzGAll, ms2, msUp, Rd.run, hH, List.length_nil, Nat.zero_add, Nat.le_refl, and_self, if_true, List.drop_nil, List.take_nil]
  simp only [k93_enc, List.map_nil] at h
  simp only [V.allIds, V.ids, List.append_nil, collect]
  unfold withR
  simp only [List.map_nil, List.append_nil, List.nil_append, V.reAll, V.re, Option.bind_some, Option.map_some, pullObs, h, List.length_nil, Nat.le_refl, if_true]
  unfold afterR
  simp only [V.re, V.reAll, pushObs, Option.bind_some, Option.map_some, List.isEmpty_nil, Bool.true_and, List.length_nil, List.nil_append]
  have hu : ∀ (b : Bool) (r : V), ∃ u, (u = [] ∨ u = [(k, some (Ob.buf 1 [] true true))]) ∧ (if b = true then Rd.pure (r, []) else Rd.pure (r, [(k, some (Ob.buf 1 [] true true))])).run H [k] = some ((r, u), [k]) := by
    intro b r
    cases b with
    | true => exact ⟨[], .inl rfl, rfl⟩
    | false => exact ⟨_, .inr rfl, rfl⟩
  exact hu _ _

theorem drop_all {α : Type} {f : α → Bool} {l : List α} {i : Nat} (h : i < l.length) : (l.drop i).any f = (f l[i] || (l.drop (i + 1)).any f) := any_drop h
theorem find_some_iff {b : Int} : ∀ {l : List S95}, (find b l).isSome = inL b l
  | [] => rfl
  | x :: r => by
    unfold find inL
    rw [List.any_cons]
    by_cases h : x.f0 = b
    · rw [if_pos h]
      simp [h]
    · rw [if_neg h, find_some_iff]
      have : (x.f0 == b) = false := by simpa using h
      rw [this]
      rfl

theorem lim17a (l : List S95) (hl : fewL l) (hf : formedB none l = false) : lim T fns 17 [.fz (l.map k95.enc)] [] = some (.tup [.fz [], .int .i64 3], []) := by
  obtain ⟨hl1, hln⟩ := hl
  have hmm : ∀ a : Int, (a != 0) = !(a == 0) := fun a => rfl
  refine fn_rule (fn := fn17) rfl rfl (by simp [fn17]) ?_
  unfold fn17
  simp only [Try.f17, Option.getD_some, argEnv, List.map_nil, List.length_nil]
  simp only [W_skip, W_exit, W_ret, W_seq, SQ_normal, SQ_exit, SQ_ret, W_block, BQ_normal, BQ_exit, BQ_ret, W_cond, WC_bool, W_draw_q, WQ_nil, WQ_cons, WQ_guard, QG_true, QG_false, QA_quiet, Heap.pad, List.nil_append, List.cons_append, pickR, List.take_succ_cons, List.take_zero, List.take_nil, List.drop_zero, List.drop_succ_cons, binStr, Nat.reduceLeDiff, W_region, WO_nil, WO_cons, WO_move, WO_assign, WO_guard, WG_true, WG_false, WA_some, WA_none, LP_exit, LP_ret, aop, ev, evs, lk, ofConst, ofCell, Nat.beq, cond_true, cond_false, Bool.false_eq_true, if_false, if_true, bin, binInt, un, ok, Rd.run, Nat.reduceLT, true_and, Heap.puts, Heap.put, Heap.at?, decide_true, decide_false, yields, skipped, isSkip, indexAddrR, fieldAddrR, loadR, builtinR, lenB, lenKd, lenR, conv, partOf, TI.agg, List.length_map, List.length_cons, List.length_nil, List.getElem?_map, List.getElem?_cons_zero, List.getElem?_cons_succ, Option.map_some, Option.bind_some, Nat.reduceAdd, Nat.reduceEqDiff, beq_iff_eq, decide_eq_true_eq, Int.natCast_eq_zero, natOf_cast, FQ_ret, FQ_normal, resAll, resOne, oneOf, finish_plain, pl_int, pl_bool, pl_str, pl_fz, pl_agg, pl_tup, pl_clo, pl_undef, pl_nil, pl_cons, Bool.and_self, Bool.and_true, all_int, all_str, int_enc, str_enc, bool_enc, Int.ofNat_lt, boxR, allocR, storeR, overwrite, buildR, fillS, Option.isSome_some, V.cells, V.isCell, List.all_cons, List.all_nil, Bool.and_true, Bool.true_and, not_false_eq_true, and_true, and_self, V.anyIds, V.hasIds, Bool.or_false, Bool.not_false, Bool.or_self, buildSliceR, parts, fillR, List.replicate_succ, List.replicate_zero, List.set_cons_zero, rowIds, appendB, rows?, append_look, appL_some, append_none, List.map_nil, Bool.and_self, Nat.reduceMul, List.length_append, false_or, ne_eq, Nat.one_ne_zero, Nat.lt_add_one, or_self, extractR, max2, min2, List.getElem?_toArray, List.singleton_append, List.append_nil, Bool.and_false, Bool.false_and, eqV4, Bool.true_beq, Bool.false_beq, Bool.not_true, Bool.not_false, WB_nil, WB_cons, WB_guard, BG_true, BG_false, BG_false_none, BA_some, BA_none, QA_noise, QA_noise_none, sigQ_nil, sigQ_snoc, ids1, apB, hits, hasN, Bool.true_or, Bool.false_or, Bool.or_true, Nat.zero_add, List.size_toArray, EQ_ret, EQ_normal, T_1, T_3, T_4, T_5, T_9, T_22, T_42, T_51, T_69, T_76, T_90, T_91, T_93, T_95, T_96, T_98, T_100, T_112, T_121, T_145]
  refine loop_rule (ι := Nat) (S := fun i => ⟨[(0, .fz (l.map k95.enc)), (4, .ms 0 6 0 0 none), (17, .int .i64 l.length), (18, .int .i64 i)], [some (.buf 6 [] false true)]⟩) (m := fun i => l.length + 1 - i)
    (I := fun i => i ≤ l.length ∧ formedB (if i = 0 then none else l[i - 1]?.map (·.f0)) (l.drop i) = formedB none l) ?_ 0 _ ⟨by omega, by simp⟩ rfl
  rintro i ⟨hi, hg⟩
  by_cases hlt : i < l.length
  · have hx : l[i]? = some l[i] := List.getElem?_eq_getElem hlt
    have hn := hln l[i] (List.getElem_mem hlt)
    have hc2 := call65 (flat l[i].f1) (few_with _ hn)
    simp only [k93_enc] at hc2
    rw [List.drop_eq_getElem_cons hlt, hf] at hg
    cases i with
    | zero =>
      have k1 : decide (((0 : Nat) : Int) > 0) = false := by simp
      simp only [if_true, formedB] at hg
      obtain ⟨u, hu, hc⟩ := call66e l[0].f1 l hn ⟨hl1, hln⟩ 12 13 [some (.buf 6 [] false true), none, none, none, none, none, none, none, none, none, none, none, some (.buf 1 [] false true)] rfl
      simp only [k93_enc] at hc
      cases k2 : (mayN (flat l[0].f1) == 0) with
      | true =>
        rw [k2] at hg
        rcases hu with rfl | rfl
        all_goals
          simp only [W_skip, W_exit, W_ret, W_seq, SQ_normal, SQ_exit, SQ_ret, W_block, BQ_normal, BQ_exit, BQ_ret, W_cond, WC_bool, W_draw_q, WQ_nil, WQ_cons, WQ_guard, QG_true, QG_false, QA_quiet, Heap.pad, List.nil_append, List.cons_append, pickR, List.take_succ_cons, List.take_zero, List.take_nil, List.drop_zero, List.drop_succ_cons, binStr, Nat.reduceLeDiff, W_region, WO_nil, WO_cons, WO_move, WO_assign, WO_guard, WG_true, WG_false, WA_some, WA_none, LP_exit, LP_ret, aop, ev, evs, lk, ofConst, ofCell, Nat.beq, cond_true, cond_false, Bool.false_eq_true, if_false, if_true, bin, binInt, un, ok, Rd.run, Nat.reduceLT, true_and, Heap.puts, Heap.put, Heap.at?, decide_true, decide_false, yields, skipped, isSkip, indexAddrR, fieldAddrR, loadR, builtinR, lenB, lenKd, lenR, conv, partOf, TI.agg, List.length_map, List.length_cons, List.length_nil, List.getElem?_map, List.getElem?_cons_zero, List.getElem?_cons_succ, Option.map_some, Option.bind_some, Nat.reduceAdd, Nat.reduceEqDiff, beq_iff_eq, decide_eq_true_eq, Int.natCast_eq_zero, natOf_cast, FQ_ret, FQ_normal, resAll, resOne, oneOf, finish_plain, pl_int, pl_bool, pl_str, pl_fz, pl_agg, pl_tup, pl_clo, pl_undef, pl_nil, pl_cons, Bool.and_self, Bool.and_true, all_int, all_str, int_enc, str_enc, bool_enc, Int.ofNat_lt, boxR, allocR, storeR, overwrite, buildR, fillS, Option.isSome_some, V.cells, V.isCell, List.all_cons, List.all_nil, Bool.and_true, Bool.true_and, not_false_eq_true, and_true, and_self, V.anyIds, V.hasIds, Bool.or_false, Bool.not_false, Bool.or_self, buildSliceR, parts, fillR, List.replicate_succ, List.replicate_zero, List.set_cons_zero, rowIds, appendB, rows?, append_look, appL_some, append_none, List.map_nil, Bool.and_self, Nat.reduceMul, List.length_append, false_or, ne_eq, Nat.one_ne_zero, Nat.lt_add_one, or_self, extractR, max2, min2, List.getElem?_toArray, List.singleton_append, List.append_nil, Bool.and_false, Bool.false_and, eqV4, Bool.true_beq, Bool.false_beq, Bool.not_true, Bool.not_false, WB_nil, WB_cons, WB_guard, BG_true, BG_false, BG_false_none, BA_some, BA_none, QA_noise, QA_noise_none, sigQ_nil, sigQ_snoc, ids1, apB, hits, hasN, Bool.true_or, Bool.false_or, Bool.or_true, Nat.zero_add, List.size_toArray, EQ_ret, EQ_normal, T_1, T_3, T_4, T_5, T_9, T_22, T_42, T_51, T_69, T_76, T_90, T_91, T_93, T_95, T_96, T_98, T_100, T_112, T_121, T_145, all95, hlt, hx, k95_enc, hc, hc2, k1, hmm, k2, wrap_i64s (show 0 < 1000000000000000000 by omega)]
          repeat (refine ⟨by kernel_rfl, ?_⟩)
          exact ⟨1, ⟨by omega, by simpa [hx, hf] using hg⟩, by simp only; omega, rfl⟩
      | false =>
        rcases hu with rfl | rfl
        all_goals
          simp only [W_skip, W_exit, W_ret, W_seq, SQ_normal, SQ_exit, SQ_ret, W_block, BQ_normal, BQ_exit, BQ_ret, W_cond, WC_bool, W_draw_q, WQ_nil, WQ_cons, WQ_guard, QG_true, QG_false, QA_quiet, Heap.pad, List.nil_append, List.cons_append, pickR, List.take_succ_cons, List.take_zero, List.take_nil, List.drop_zero, List.drop_succ_cons, binStr, Nat.reduceLeDiff, W_region, WO_nil, WO_cons, WO_move, WO_assign, WO_guard, WG_true, WG_false, WA_some, WA_none, LP_exit, LP_ret, aop, ev, evs, lk, ofConst, ofCell, Nat.beq, cond_true, cond_false, Bool.false_eq_true, if_false, if_true, bin, binInt, un, ok, Rd.run, Nat.reduceLT, true_and, Heap.puts, Heap.put, Heap.at?, decide_true, decide_false, yields, skipped, isSkip, indexAddrR, fieldAddrR, loadR, builtinR, lenB, lenKd, lenR, conv, partOf, TI.agg, List.length_map, List.length_cons, List.length_nil, List.getElem?_map, List.getElem?_cons_zero, List.getElem?_cons_succ, Option.map_some, Option.bind_some, Nat.reduceAdd, Nat.reduceEqDiff, beq_iff_eq, decide_eq_true_eq, Int.natCast_eq_zero, natOf_cast, FQ_ret, FQ_normal, resAll, resOne, oneOf, finish_plain, pl_int, pl_bool, pl_str, pl_fz, pl_agg, pl_tup, pl_clo, pl_undef, pl_nil, pl_cons, Bool.and_self, Bool.and_true, all_int, all_str, int_enc, str_enc, bool_enc, Int.ofNat_lt, boxR, allocR, storeR, overwrite, buildR, fillS, Option.isSome_some, V.cells, V.isCell, List.all_cons, List.all_nil, Bool.and_true, Bool.true_and, not_false_eq_true, and_true, and_self, V.anyIds, V.hasIds, Bool.or_false, Bool.not_false, Bool.or_self, buildSliceR, parts, fillR, List.replicate_succ, List.replicate_zero, List.set_cons_zero, rowIds, appendB, rows?, append_look, appL_some, append_none, List.map_nil, Bool.and_self, Nat.reduceMul, List.length_append, false_or, ne_eq, Nat.one_ne_zero, Nat.lt_add_one, or_self, extractR, max2, min2, List.getElem?_toArray, List.singleton_append, List.append_nil, Bool.and_false, Bool.false_and, eqV4, Bool.true_beq, Bool.false_beq, Bool.not_true, Bool.not_false, WB_nil, WB_cons, WB_guard, BG_true, BG_false, BG_false_none, BA_some, BA_none, QA_noise, QA_noise_none, sigQ_nil, sigQ_snoc, ids1, apB, hits, hasN, Bool.true_or, Bool.false_or, Bool.or_true, Nat.zero_add, List.size_toArray, EQ_ret, EQ_normal, T_1, T_3, T_4, T_5, T_9, T_22, T_42, T_51, T_69, T_76, T_90, T_91, T_93, T_95, T_96, T_98, T_100, T_112, T_121, T_145, all95, hlt, hx, k95_enc, hc, hc2, k1, hmm, k2]
          repeat (refine ⟨by kernel_rfl, ?_⟩)
          show _ = _
          kernel_rfl
    | succ i =>
      have k1 : decide (((i + 1 : Nat) : Int) > 0) = true := decide_eq_true (by omega)
      have hy : l[i]? = some (l[i]'(by omega)) := List.getElem?_eq_getElem (by omega)
      simp only [Nat.add_one_ne_zero, if_false, Nat.add_sub_cancel, hy, Option.map_some, formedB] at hg
      obtain ⟨u, hu, hc⟩ := call66e l[i + 1].f1 l hn ⟨hl1, hln⟩ 24 25 [some (.buf 6 [] false true), none, none, none, none, none, none, none, none, none, none, none, none, none, none, none, none, none, none, none, none, none, none, none, some (.buf 1 [] false true)] rfl
      simp only [k93_enc] at hc
      cases k3 : decide (l[i + 1].f0 ≤ (l[i]'(by omega)).f0) with
      | true =>
        simp only [W_skip, W_exit, W_ret, W_seq, SQ_normal, SQ_exit, SQ_ret, W_block, BQ_normal, BQ_exit, BQ_ret, W_cond, WC_bool, W_draw_q, WQ_nil, WQ_cons, WQ_guard, QG_true, QG_false, QA_quiet, Heap.pad, List.nil_append, List.cons_append, pickR, List.take_succ_cons, List.take_zero, List.take_nil, List.drop_zero, List.drop_succ_cons, binStr, Nat.reduceLeDiff, W_region, WO_nil, WO_cons, WO_move, WO_assign, WO_guard, WG_true, WG_false, WA_some, WA_none, LP_exit, LP_ret, aop, ev, evs, lk, ofConst, ofCell, Nat.beq, cond_true, cond_false, Bool.false_eq_true, if_false, if_true, bin, binInt, un, ok, Rd.run, Nat.reduceLT, true_and, Heap.puts, Heap.put, Heap.at?, decide_true, decide_false, yields, skipped, isSkip, indexAddrR, fieldAddrR, loadR, builtinR, lenB, lenKd, lenR, conv, partOf, TI.agg, List.length_map, List.length_cons, List.length_nil, List.getElem?_map, List.getElem?_cons_zero, List.getElem?_cons_succ, Option.map_some, Option.bind_some, Nat.reduceAdd, Nat.reduceEqDiff, beq_iff_eq, decide_eq_true_eq, Int.natCast_eq_zero, natOf_cast, FQ_ret, FQ_normal, resAll, resOne, oneOf, finish_plain, pl_int, pl_bool, pl_str, pl_fz, pl_agg, pl_tup, pl_clo, pl_undef, pl_nil, pl_cons, Bool.and_self, Bool.and_true, all_int, all_str, int_enc, str_enc, bool_enc, Int.ofNat_lt, boxR, allocR, storeR, overwrite, buildR, fillS, Option.isSome_some, V.cells, V.isCell, List.all_cons, List.all_nil, Bool.and_true, Bool.true_and, not_false_eq_true, and_true, and_self, V.anyIds, V.hasIds, Bool.or_false, Bool.not_false, Bool.or_self, buildSliceR, parts, fillR, List.replicate_succ, List.replicate_zero, List.set_cons_zero, rowIds, appendB, rows?, append_look, appL_some, append_none, List.map_nil, Bool.and_self, Nat.reduceMul, List.length_append, false_or, ne_eq, Nat.one_ne_zero, Nat.lt_add_one, or_self, extractR, max2, min2, List.getElem?_toArray, List.singleton_append, List.append_nil, Bool.and_false, Bool.false_and, eqV4, Bool.true_beq, Bool.false_beq, Bool.not_true, Bool.not_false, WB_nil, WB_cons, WB_guard, BG_true, BG_false, BG_false_none, BA_some, BA_none, QA_noise, QA_noise_none, sigQ_nil, sigQ_snoc, ids1, apB, hits, hasN, Bool.true_or, Bool.false_or, Bool.or_true, Nat.zero_add, List.size_toArray, EQ_ret, EQ_normal, T_1, T_3, T_4, T_5, T_9, T_22, T_42, T_51, T_69, T_76, T_90, T_91, T_93, T_95, T_96, T_98, T_100, T_112, T_121, T_145, all95, hlt, hx, hy, k95_enc, k1, k3, wrap_i64p (show i < 1000000000000000000 by omega)]
        show _ = _
        kernel_rfl
      | false =>
        cases k2 : (mayN (flat l[i + 1].f1) == 0) with
        | true =>
          rw [k3, k2] at hg
          rcases hu with rfl | rfl
          all_goals
            simp only [W_skip, W_exit, W_ret, W_seq, SQ_normal, SQ_exit, SQ_ret, W_block, BQ_normal, BQ_exit, BQ_ret, W_cond, WC_bool, W_draw_q, WQ_nil, WQ_cons, WQ_guard, QG_true, QG_false, QA_quiet, Heap.pad, List.nil_append, List.cons_append, pickR, List.take_succ_cons, List.take_zero, List.take_nil, List.drop_zero, List.drop_succ_cons, binStr, Nat.reduceLeDiff, W_region, WO_nil, WO_cons, WO_move, WO_assign, WO_guard, WG_true, WG_false, WA_some, WA_none, LP_exit, LP_ret, aop, ev, evs, lk, ofConst, ofCell, Nat.beq, cond_true, cond_false, Bool.false_eq_true, if_false, if_true, bin, binInt, un, ok, Rd.run, Nat.reduceLT, true_and, Heap.puts, Heap.put, Heap.at?, decide_true, decide_false, yields, skipped, isSkip, indexAddrR, fieldAddrR, loadR, builtinR, lenB, lenKd, lenR, conv, partOf, TI.agg, List.length_map, List.length_cons, List.length_nil, List.getElem?_map, List.getElem?_cons_zero, List.getElem?_cons_succ, Option.map_some, Option.bind_some, Nat.reduceAdd, Nat.reduceEqDiff, beq_iff_eq, decide_eq_true_eq, Int.natCast_eq_zero, natOf_cast, FQ_ret, FQ_normal, resAll, resOne, oneOf, finish_plain, pl_int, pl_bool, pl_str, pl_fz, pl_agg, pl_tup, pl_clo, pl_undef, pl_nil, pl_cons, Bool.and_self, Bool.and_true, all_int, all_str, int_enc, str_enc, bool_enc, Int.ofNat_lt, boxR, allocR, storeR, overwrite, buildR, fillS, Option.isSome_some, V.cells, V.isCell, List.all_cons, List.all_nil, Bool.and_true, Bool.true_and, not_false_eq_true, and_true, and_self, V.anyIds, V.hasIds, Bool.or_false, Bool.not_false, Bool.or_self, buildSliceR, parts, fillR, List.replicate_succ, List.replicate_zero, List.set_cons_zero, rowIds, appendB, rows?, append_look, appL_some, append_none, List.map_nil, Bool.and_self, Nat.reduceMul, List.length_append, false_or, ne_eq, Nat.one_ne_zero, Nat.lt_add_one, or_self, extractR, max2, min2, List.getElem?_toArray, List.singleton_append, List.append_nil, Bool.and_false, Bool.false_and, eqV4, Bool.true_beq, Bool.false_beq, Bool.not_true, Bool.not_false, WB_nil, WB_cons, WB_guard, BG_true, BG_false, BG_false_none, BA_some, BA_none, QA_noise, QA_noise_none, sigQ_nil, sigQ_snoc, ids1, apB, hits, hasN, Bool.true_or, Bool.false_or, Bool.or_true, Nat.zero_add, List.size_toArray, EQ_ret, EQ_normal, T_1, T_3, T_4, T_5, T_9, T_22, T_42, T_51, T_69, T_76, T_90, T_91, T_93, T_95, T_96, T_98, T_100, T_112, T_121, T_145, all95, hlt, hx, hy, k95_enc, hc, hc2, k1, hmm, k2, k3, wrap_i64p (show i < 1000000000000000000 by omega), wrap_i64s (show i + 1 < 1000000000000000000 by omega)]
            repeat (refine ⟨by kernel_rfl, ?_⟩)
            exact ⟨i + 1 + 1, ⟨by omega, by simpa [hx, hf] using hg⟩, by simp only; omega, rfl⟩
        | false =>
          rcases hu with rfl | rfl
          all_goals
            simp only [W_skip, W_exit, W_ret, W_seq, SQ_normal, SQ_exit, SQ_ret, W_block, BQ_normal, BQ_exit, BQ_ret, W_cond, WC_bool, W_draw_q, WQ_nil, WQ_cons, WQ_guard, QG_true, QG_false, QA_quiet, Heap.pad, List.nil_append, List.cons_append, pickR, List.take_succ_cons, List.take_zero, List.take_nil, List.drop_zero, List.drop_succ_cons, binStr, Nat.reduceLeDiff, W_region, WO_nil, WO_cons, WO_move, WO_assign, WO_guard, WG_true, WG_false, WA_some, WA_none, LP_exit, LP_ret, aop, ev, evs, lk, ofConst, ofCell, Nat.beq, cond_true, cond_false, Bool.false_eq_true, if_false, if_true, bin, binInt, un, ok, Rd.run, Nat.reduceLT, true_and, Heap.puts, Heap.put, Heap.at?, decide_true, decide_false, yields, skipped, isSkip, indexAddrR, fieldAddrR, loadR, builtinR, lenB, lenKd, lenR, conv, partOf, TI.agg, List.length_map, List.length_cons, List.length_nil, List.getElem?_map, List.getElem?_cons_zero, List.getElem?_cons_succ, Option.map_some, Option.bind_some, Nat.reduceAdd, Nat.reduceEqDiff, beq_iff_eq, decide_eq_true_eq, Int.natCast_eq_zero, natOf_cast, FQ_ret, FQ_normal, resAll, resOne, oneOf, finish_plain, pl_int, pl_bool, pl_str, pl_fz, pl_agg, pl_tup, pl_clo, pl_undef, pl_nil, pl_cons, Bool.and_self, Bool.and_true, all_int, all_str, int_enc, str_enc, bool_enc, Int.ofNat_lt, boxR, allocR, storeR, overwrite, buildR, fillS, Option.isSome_some, V.cells, V.isCell, List.all_cons, List.all_nil, Bool.and_true, Bool.true_and, not_false_eq_true, and_true, and_self, V.anyIds, V.hasIds, Bool.or_false, Bool.not_false, Bool.or_self, buildSliceR, parts, fillR, List.replicate_succ, List.replicate_zero, List.set_cons_zero, rowIds, appendB, rows?, append_look, appL_some, append_none, List.map_nil, Bool.and_self, Nat.reduceMul, List.length_append, false_or, ne_eq, Nat.one_ne_zero, Nat.lt_add_one, or_self, extractR, max2, min2, List.getElem?_toArray, List.singleton_append, List.append_nil, Bool.and_false, Bool.false_and, eqV4, Bool.true_beq, Bool.false_beq, Bool.not_true, Bool.not_false, WB_nil, WB_cons, WB_guard, BG_true, BG_false, BG_false_none, BA_some, BA_none, QA_noise, QA_noise_none, sigQ_nil, sigQ_snoc, ids1, apB, hits, hasN, Bool.true_or, Bool.false_or, Bool.or_true, Nat.zero_add, List.size_toArray, EQ_ret, EQ_normal, T_1, T_3, T_4, T_5, T_9, T_22, T_42, T_51, T_69, T_76, T_90, T_91, T_93, T_95, T_96, T_98, T_100, T_112, T_121, T_145, all95, hlt, hx, hy, k95_enc, hc, hc2, k1, hmm, k2, k3, wrap_i64p (show i < 1000000000000000000 by omega)]
            repeat (refine ⟨by kernel_rfl, ?_⟩)
            show _ = _
            kernel_rfl
  · rw [List.drop_eq_nil_of_le (by omega), hf] at hg
    cases hp : (if i = 0 then none else l[i - 1]?.map (·.f0)) <;> rw [hp] at hg <;> cases hg

/-- A right beginning. -/
theorem formed_at : ∀ {l : List S95} {p : Option Int}, formedB p l = true → ∀ {i : Nat} (h : i < l.length), (mayN (flat l[i].f1) == 0) = true ∧ (∀ q, p = some q → i = 0 → decide (l[i].f0 ≤ q) = false) ∧ ∀ h' : i - 1 < l.length, i ≠ 0 → decide (l[i].f0 ≤ l[i - 1].f0) = false
  | x :: r, p, hf, 0, h => by
    cases p with
    | none =>
      simp only [formedB, Bool.and_eq_true] at hf
      exact ⟨hf.1, fun q hq => (by cases hq), fun _ h => absurd rfl h⟩
    | some q =>
      simp only [formedB, Bool.and_eq_true, Bool.not_eq_true'] at hf
      exact ⟨hf.1.2, fun q' hq _ => (by cases hq; exact hf.1.1), fun _ h => absurd rfl h⟩
  | x :: r, p, hf, i + 1, h => by
    have h2 : formedB (some x.f0) r = true := by
      cases p <;> (simp only [formedB, Bool.and_eq_true] at hf; exact hf.2)
    have := formed_at h2 (i := i) (by simpa using h)
    refine ⟨this.1, fun q _ h0 => by omega, fun h' _ => ?_⟩
    cases i with
    | zero => exact this.2.1 _ rfl rfl
    | succ i => exact this.2.2 (by simp at h; omega) (by omega)

theorem lim17b (l : List S95) (hl : fewL l) (h30 : l.length ≤ 30) (hf : formedB none l = true) : lim T fns 17 [.fz (l.map k95.enc)] [] = some (.tup [.fz ((fixP l).1.map k95.enc), .int .i64 (fixP l).2], []) := by
  obtain ⟨hl1, hln⟩ := hl
  have hmm : ∀ a : Int, (a != 0) = !(a == 0) := fun a => rfl
  have hr := rises_of_formed hf
  unfold fixP
  rw [hf]
  simp only [Bool.true_eq_false, if_false]
  refine fn_rule (fn := fn17) rfl rfl (by simp [fn17]) ?_
  unfold fn17
  simp only [Try.f17, Option.getD_some, argEnv, List.map_nil, List.length_nil]
  simp only [W_skip, W_exit, W_ret, W_seq, SQ_normal, SQ_exit, SQ_ret, W_block, BQ_normal, BQ_exit, BQ_ret, W_cond, WC_bool, W_draw_q, WQ_nil, WQ_cons, WQ_guard, QG_true, QG_false, QA_quiet, Heap.pad, List.nil_append, List.cons_append, pickR, List.take_succ_cons, List.take_zero, List.take_nil, List.drop_zero, List.drop_succ_cons, binStr, Nat.reduceLeDiff, W_region, WO_nil, WO_cons, WO_move, WO_assign, WO_guard, WG_true, WG_false, WA_some, WA_none, LP_exit, LP_ret, aop, ev, evs, lk, ofConst, ofCell, Nat.beq, cond_true, cond_false, Bool.false_eq_true, if_false, if_true, bin, binInt, un, ok, Rd.run, Nat.reduceLT, true_and, Heap.puts, Heap.put, Heap.at?, decide_true, decide_false, yields, skipped, isSkip, indexAddrR, fieldAddrR, loadR, builtinR, lenB, lenKd, lenR, conv, partOf, TI.agg, List.length_map, List.length_cons, List.length_nil, List.getElem?_map, List.getElem?_cons_zero, List.getElem?_cons_succ, Option.map_some, Option.bind_some, Nat.reduceAdd, Nat.reduceEqDiff, beq_iff_eq, decide_eq_true_eq, Int.natCast_eq_zero, natOf_cast, FQ_ret, FQ_normal, resAll, resOne, oneOf, finish_plain, pl_int, pl_bool, pl_str, pl_fz, pl_agg, pl_tup, pl_clo, pl_undef, pl_nil, pl_cons, Bool.and_self, Bool.and_true, all_int, all_str, int_enc, str_enc, bool_enc, Int.ofNat_lt, boxR, allocR, storeR, overwrite, buildR, fillS, Option.isSome_some, V.cells, V.isCell, List.all_cons, List.all_nil, Bool.and_true, Bool.true_and, not_false_eq_true, and_true, and_self, V.anyIds, V.hasIds, Bool.or_false, Bool.not_false, Bool.or_self, buildSliceR, parts, fillR, List.replicate_succ, List.replicate_zero, List.set_cons_zero, rowIds, appendB, rows?, append_look, appL_some, append_none, List.map_nil, Bool.and_self, Nat.reduceMul, List.length_append, false_or, ne_eq, Nat.one_ne_zero, Nat.lt_add_one, or_self, extractR, max2, min2, List.getElem?_toArray, List.singleton_append, List.append_nil, Bool.and_false, Bool.false_and, eqV4, Bool.true_beq, Bool.false_beq, Bool.not_true, Bool.not_false, WB_nil, WB_cons, WB_guard, BG_true, BG_false, BG_false_none, BA_some, BA_none, QA_noise, QA_noise_none, sigQ_nil, sigQ_snoc, ids1, apB, hits, hasN, Bool.true_or, Bool.false_or, Bool.or_true, Nat.zero_add, List.size_toArray, EQ_ret, EQ_normal, T_1, T_3, T_4, T_5, T_9, T_22, T_42, T_51, T_69, T_76, T_90, T_91, T_93, T_95, T_96, T_98, T_100, T_112, T_121, T_145]
  refine loop_rule (ι := Nat) (S := fun i => ⟨[(0, .fz (l.map k95.enc)), (4, .ms 0 6 0 0 none), (17, .int .i64 l.length), (18, .int .i64 i)], [some (.buf 6 [] false true)]⟩) (m := fun i => l.length + 1 - i)
    (I := fun i => i ≤ l.length) ?_ 0 _ (by simp) rfl
  intro i hi
  by_cases hlt : i < l.length
  · have hx : l[i]? = some l[i] := List.getElem?_eq_getElem hlt
    have hn := hln l[i] (List.getElem_mem hlt)
    have hc2 := call65 (flat l[i].f1) (few_with _ hn)
    simp only [k93_enc] at hc2
    obtain ⟨k2, _, k3⟩ := formed_at hf hlt
    cases i with
    | zero =>
      have k1 : decide (((0 : Nat) : Int) > 0) = false := by simp
      obtain ⟨u, hu, hc⟩ := call66e l[0].f1 l hn ⟨hl1, hln⟩ 12 13 [some (.buf 6 [] false true), none, none, none, none, none, none, none, none, none, none, none, some (.buf 1 [] false true)] rfl
      simp only [k93_enc] at hc
      rcases hu with rfl | rfl
      all_goals
        simp only [W_skip, W_exit, W_ret, W_seq, SQ_normal, SQ_exit, SQ_ret, W_block, BQ_normal, BQ_exit, BQ_ret, W_cond, WC_bool, W_draw_q, WQ_nil, WQ_cons, WQ_guard, QG_true, QG_false, QA_quiet, Heap.pad, List.nil_append, List.cons_append, pickR, List.take_succ_cons, List.take_zero, List.take_nil, List.drop_zero, List.drop_succ_cons, binStr, Nat.reduceLeDiff, W_region, WO_nil, WO_cons, WO_move, WO_assign, WO_guard, WG_true, WG_false, WA_some, WA_none, LP_exit, LP_ret, aop, ev, evs, lk, ofConst, ofCell, Nat.beq, cond_true, cond_false, Bool.false_eq_true, if_false, if_true, bin, binInt, un, ok, Rd.run, Nat.reduceLT, true_and, Heap.puts, Heap.put, Heap.at?, decide_true, decide_false, yields, skipped, isSkip, indexAddrR, fieldAddrR, loadR, builtinR, lenB, lenKd, lenR, conv, partOf, TI.agg, List.length_map, List.length_cons, List.length_nil, List.getElem?_map, List.getElem?_cons_zero, List.getElem?_cons_succ, Option.map_some, Option.bind_some, Nat.reduceAdd, Nat.reduceEqDiff, beq_iff_eq, decide_eq_true_eq, Int.natCast_eq_zero, natOf_cast, FQ_ret, FQ_normal, resAll, resOne, oneOf, finish_plain, pl_int, pl_bool, pl_str, pl_fz, pl_agg, pl_tup, pl_clo, pl_undef, pl_nil, pl_cons, Bool.and_self, Bool.and_true, all_int, all_str, int_enc, str_enc, bool_enc, Int.ofNat_lt, boxR, allocR, storeR, overwrite, buildR, fillS, Option.isSome_some, V.cells, V.isCell, List.all_cons, List.all_nil, Bool.and_true, Bool.true_and, not_false_eq_true, and_true, and_self, V.anyIds, V.hasIds, Bool.or_false, Bool.not_false, Bool.or_self, buildSliceR, parts, fillR, List.replicate_succ, List.replicate_zero, List.set_cons_zero, rowIds, appendB, rows?, append_look, appL_some, append_none, List.map_nil, Bool.and_self, Nat.reduceMul, List.length_append, false_or, ne_eq, Nat.one_ne_zero, Nat.lt_add_one, or_self, extractR, max2, min2, List.getElem?_toArray, List.singleton_append, List.append_nil, Bool.and_false, Bool.false_and, eqV4, Bool.true_beq, Bool.false_beq, Bool.not_true, Bool.not_false, WB_nil, WB_cons, WB_guard, BG_true, BG_false, BG_false_none, BA_some, BA_none, QA_noise, QA_noise_none, sigQ_nil, sigQ_snoc, ids1, apB, hits, hasN, Bool.true_or, Bool.false_or, Bool.or_true, Nat.zero_add, List.size_toArray, EQ_ret, EQ_normal, T_1, T_3, T_4, T_5, T_9, T_22, T_42, T_51, T_69, T_76, T_90, T_91, T_93, T_95, T_96, T_98, T_100, T_112, T_121, T_145, all95, hlt, hx, k95_enc, hc, hc2, k1, hmm, k2, wrap_i64s (show 0 < 1000000000000000000 by omega)]
        repeat (refine ⟨by kernel_rfl, ?_⟩)
        exact ⟨1, by omega, by simp only; omega, rfl⟩
    | succ i =>
      have k1 : decide (((i + 1 : Nat) : Int) > 0) = true := decide_eq_true (by omega)
      have hy : l[i]? = some (l[i]'(by omega)) := List.getElem?_eq_getElem (by omega)
      have k3 := k3 (by omega) (by omega)
      simp only [Nat.add_sub_cancel] at k3
      obtain ⟨u, hu, hc⟩ := call66e l[i + 1].f1 l hn ⟨hl1, hln⟩ 24 25 [some (.buf 6 [] false true), none, none, none, none, none, none, none, none, none, none, none, none, none, none, none, none, none, none, none, none, none, none, none, some (.buf 1 [] false true)] rfl
      simp only [k93_enc] at hc
      rcases hu with rfl | rfl
      all_goals
        simp only [W_skip, W_exit, W_ret, W_seq, SQ_normal, SQ_exit, SQ_ret, W_block, BQ_normal, BQ_exit, BQ_ret, W_cond, WC_bool, W_draw_q, WQ_nil, WQ_cons, WQ_guard, QG_true, QG_false, QA_quiet, Heap.pad, List.nil_append, List.cons_append, pickR, List.take_succ_cons, List.take_zero, List.take_nil, List.drop_zero, List.drop_succ_cons, binStr, Nat.reduceLeDiff, W_region, WO_nil, WO_cons, WO_move, WO_assign, WO_guard, WG_true, WG_false, WA_some, WA_none, LP_exit, LP_ret, aop, ev, evs, lk, ofConst, ofCell, Nat.beq, cond_true, cond_false, Bool.false_eq_true, if_false, if_true, bin, binInt, un, ok, Rd.run, Nat.reduceLT, true_and, Heap.puts, Heap.put, Heap.at?, decide_true, decide_false, yields, skipped, isSkip, indexAddrR, fieldAddrR, loadR, builtinR, lenB, lenKd, lenR, conv, partOf, TI.agg, List.length_map, List.length_cons, List.length_nil, List.getElem?_map, List.getElem?_cons_zero, List.getElem?_cons_succ, Option.map_some, Option.bind_some, Nat.reduceAdd, Nat.reduceEqDiff, beq_iff_eq, decide_eq_true_eq, Int.natCast_eq_zero, natOf_cast, FQ_ret, FQ_normal, resAll, resOne, oneOf, finish_plain, pl_int, pl_bool, pl_str, pl_fz, pl_agg, pl_tup, pl_clo, pl_undef, pl_nil, pl_cons, Bool.and_self, Bool.and_true, all_int, all_str, int_enc, str_enc, bool_enc, Int.ofNat_lt, boxR, allocR, storeR, overwrite, buildR, fillS, Option.isSome_some, V.cells, V.isCell, List.all_cons, List.all_nil, Bool.and_true, Bool.true_and, not_false_eq_true, and_true, and_self, V.anyIds, V.hasIds, Bool.or_false, Bool.not_false, Bool.or_self, buildSliceR, parts, fillR, List.replicate_succ, List.replicate_zero, List.set_cons_zero, rowIds, appendB, rows?, append_look, appL_some, append_none, List.map_nil, Bool.and_self, Nat.reduceMul, List.length_append, false_or, ne_eq, Nat.one_ne_zero, Nat.lt_add_one, or_self, extractR, max2, min2, List.getElem?_toArray, List.singleton_append, List.append_nil, Bool.and_false, Bool.false_and, eqV4, Bool.true_beq, Bool.false_beq, Bool.not_true, Bool.not_false, WB_nil, WB_cons, WB_guard, BG_true, BG_false, BG_false_none, BA_some, BA_none, QA_noise, QA_noise_none, sigQ_nil, sigQ_snoc, ids1, apB, hits, hasN, Bool.true_or, Bool.false_or, Bool.or_true, Nat.zero_add, List.size_toArray, EQ_ret, EQ_normal, T_1, T_3, T_4, T_5, T_9, T_22, T_42, T_51, T_69, T_76, T_90, T_91, T_93, T_95, T_96, T_98, T_100, T_112, T_121, T_145, all95, hlt, hx, hy, k95_enc, hc, hc2, k1, hmm, k2, k3, wrap_i64p (show i < 1000000000000000000 by omega), wrap_i64s (show i + 1 < 1000000000000000000 by omega)]
        repeat (refine ⟨by kernel_rfl, ?_⟩)
        exact ⟨i + 1 + 1, by omega, by simp only; omega, rfl⟩
  obtain rfl : i = l.length := by omega
  simp only [W_skip, W_exit, W_ret, W_seq, SQ_normal, SQ_exit, SQ_ret, W_block, BQ_normal, BQ_exit, BQ_ret, W_cond, WC_bool, W_draw_q, WQ_nil, WQ_cons, WQ_guard, QG_true, QG_false, QA_quiet, Heap.pad, List.nil_append, List.cons_append, pickR, List.take_succ_cons, List.take_zero, List.take_nil, List.drop_zero, List.drop_succ_cons, binStr, Nat.reduceLeDiff, W_region, WO_nil, WO_cons, WO_move, WO_assign, WO_guard, WG_true, WG_false, WA_some, WA_none, LP_exit, LP_ret, aop, ev, evs, lk, ofConst, ofCell, Nat.beq, cond_true, cond_false, Bool.false_eq_true, if_false, if_true, bin, binInt, un, ok, Rd.run, Nat.reduceLT, true_and, Heap.puts, Heap.put, Heap.at?, decide_true, decide_false, yields, skipped, isSkip, indexAddrR, fieldAddrR, loadR, builtinR, lenB, lenKd, lenR, conv, partOf, TI.agg, List.length_map, List.length_cons, List.length_nil, List.getElem?_map, List.getElem?_cons_zero, List.getElem?_cons_succ, Option.map_some, Option.bind_some, Nat.reduceAdd, Nat.reduceEqDiff, beq_iff_eq, decide_eq_true_eq, Int.natCast_eq_zero, natOf_cast, FQ_ret, FQ_normal, resAll, resOne, oneOf, finish_plain, pl_int, pl_bool, pl_str, pl_fz, pl_agg, pl_tup, pl_clo, pl_undef, pl_nil, pl_cons, Bool.and_self, Bool.and_true, all_int, all_str, int_enc, str_enc, bool_enc, Int.ofNat_lt, boxR, allocR, storeR, overwrite, buildR, fillS, Option.isSome_some, V.cells, V.isCell, List.all_cons, List.all_nil, Bool.and_true, Bool.true_and, not_false_eq_true, and_true, and_self, V.anyIds, V.hasIds, Bool.or_false, Bool.not_false, Bool.or_self, buildSliceR, parts, fillR, List.replicate_succ, List.replicate_zero, List.set_cons_zero, rowIds, appendB, rows?, append_look, appL_some, append_none, List.map_nil, Bool.and_self, Nat.reduceMul, List.length_append, false_or, ne_eq, Nat.one_ne_zero, Nat.lt_add_one, or_self, extractR, max2, min2, List.getElem?_toArray, List.singleton_append, List.append_nil, Bool.and_false, Bool.false_and, eqV4, Bool.true_beq, Bool.false_beq, Bool.not_true, Bool.not_false, WB_nil, WB_cons, WB_guard, BG_true, BG_false, BG_false_none, BA_some, BA_none, QA_noise, QA_noise_none, sigQ_nil, sigQ_snoc, ids1, apB, hits, hasN, Bool.true_or, Bool.false_or, Bool.or_true, Nat.zero_add, List.size_toArray, EQ_ret, EQ_normal, T_1, T_3, T_4, T_5, T_9, T_22, T_42, T_51, T_69, T_76, T_90, T_91, T_93, T_95, T_96, T_98, T_100, T_112, T_121, T_145, hlt]
  refine loop_rule (ι := Nat) (S := fun i => ⟨[(0, .fz (l.map k95.enc)), (4, .ms 0 6 0 0 none), (52, .int .i64 l.length), (53, .int .i64 i)], [some (.buf 6 [] false true)]⟩) (m := fun i => l.length + 1 - i)
    (I := fun i => i ≤ l.length ∧ ((l.drop i).all fun x => !(targets x.f1).any fun b => !inL b l) = wholeB l) ?_ 0 _ ⟨by omega, by simp [wholeB]⟩ rfl
  clear hi hlt
  rintro i ⟨hi, hg⟩
  by_cases hlt : i < l.length
  · have hx : l[i]? = some l[i] := List.getElem?_eq_getElem hlt
    have hn := hln l[i] (List.getElem_mem hlt)
    have hc := call67 l[i].f1 hn
    have hts := targets_le l[i].f1 hn
    simp only [k93_enc] at hc
    rw [all_drop hlt] at hg
    generalize targets l[i].f1 = ts at hc hts hg
    simp only [W_skip, W_exit, W_ret, W_seq, SQ_normal, SQ_exit, SQ_ret, W_block, BQ_normal, BQ_exit, BQ_ret, W_cond, WC_bool, W_draw_q, WQ_nil, WQ_cons, WQ_guard, QG_true, QG_false, QA_quiet, Heap.pad, List.nil_append, List.cons_append, pickR, List.take_succ_cons, List.take_zero, List.take_nil, List.drop_zero, List.drop_succ_cons, binStr, Nat.reduceLeDiff, W_region, WO_nil, WO_cons, WO_move, WO_assign, WO_guard, WG_true, WG_false, WA_some, WA_none, LP_exit, LP_ret, aop, ev, evs, lk, ofConst, ofCell, Nat.beq, cond_true, cond_false, Bool.false_eq_true, if_false, if_true, bin, binInt, un, ok, Rd.run, Nat.reduceLT, true_and, Heap.puts, Heap.put, Heap.at?, decide_true, decide_false, yields, skipped, isSkip, indexAddrR, fieldAddrR, loadR, builtinR, lenB, lenKd, lenR, conv, partOf, TI.agg, List.length_map, List.length_cons, List.length_nil, List.getElem?_map, List.getElem?_cons_zero, List.getElem?_cons_succ, Option.map_some, Option.bind_some, Nat.reduceAdd, Nat.reduceEqDiff, beq_iff_eq, decide_eq_true_eq, Int.natCast_eq_zero, natOf_cast, FQ_ret, FQ_normal, resAll, resOne, oneOf, finish_plain, pl_int, pl_bool, pl_str, pl_fz, pl_agg, pl_tup, pl_clo, pl_undef, pl_nil, pl_cons, Bool.and_self, Bool.and_true, all_int, all_str, int_enc, str_enc, bool_enc, Int.ofNat_lt, boxR, allocR, storeR, overwrite, buildR, fillS, Option.isSome_some, V.cells, V.isCell, List.all_cons, List.all_nil, Bool.and_true, Bool.true_and, not_false_eq_true, and_true, and_self, V.anyIds, V.hasIds, Bool.or_false, Bool.not_false, Bool.or_self, buildSliceR, parts, fillR, List.replicate_succ, List.replicate_zero, List.set_cons_zero, rowIds, appendB, rows?, append_look, appL_some, append_none, List.map_nil, Bool.and_self, Nat.reduceMul, List.length_append, false_or, ne_eq, Nat.one_ne_zero, Nat.lt_add_one, or_self, extractR, max2, min2, List.getElem?_toArray, List.singleton_append, List.append_nil, Bool.and_false, Bool.false_and, eqV4, Bool.true_beq, Bool.false_beq, Bool.not_true, Bool.not_false, WB_nil, WB_cons, WB_guard, BG_true, BG_false, BG_false_none, BA_some, BA_none, QA_noise, QA_noise_none, sigQ_nil, sigQ_snoc, ids1, apB, hits, hasN, Bool.true_or, Bool.false_or, Bool.or_true, Nat.zero_add, List.size_toArray, EQ_ret, EQ_normal, T_1, T_3, T_4, T_5, T_9, T_22, T_42, T_51, T_69, T_76, T_90, T_91, T_93, T_95, T_96, T_98, T_100, T_112, T_121, T_145, all95, hlt, hx, k95_enc, hc]
    refine loop_rule (ι := Nat) (S := fun k => ⟨[(0, .fz (l.map k95.enc)), (4, .ms 0 6 0 0 none), (7, .fz (ts.map (Cd.int .u32).enc)), (52, .int .i64 l.length), (53, .int .i64 i), (63, .int .i64 ts.length), (64, .int .i64 k)], [some (.buf 6 [] false true)]⟩) (m := fun k => ts.length + 1 - k)
      (I := fun k => k ≤ ts.length ∧ ((ts.drop k).any fun b => !inL b l) = ts.any fun b => !inL b l) ?_ 0 _ ⟨by omega, by simp⟩ rfl
    rintro k ⟨hk, hq⟩
    by_cases hkt : k < ts.length
    · have hy : ts[k]? = some ts[k] := List.getElem?_eq_getElem hkt
      have hc2 := call68 l ts[k] ⟨hl1, hln⟩
      rw [any_drop hkt] at hq
      cases k1 : inL ts[k] l with
      | true =>
        rw [k1] at hq
        simp only [find_some_iff, k1, k93_enc] at hc2
        simp only [W_skip, W_exit, W_ret, W_seq, SQ_normal, SQ_exit, SQ_ret, W_block, BQ_normal, BQ_exit, BQ_ret, W_cond, WC_bool, W_draw_q, WQ_nil, WQ_cons, WQ_guard, QG_true, QG_false, QA_quiet, Heap.pad, List.nil_append, List.cons_append, pickR, List.take_succ_cons, List.take_zero, List.take_nil, List.drop_zero, List.drop_succ_cons, binStr, Nat.reduceLeDiff, W_region, WO_nil, WO_cons, WO_move, WO_assign, WO_guard, WG_true, WG_false, WA_some, WA_none, LP_exit, LP_ret, aop, ev, evs, lk, ofConst, ofCell, Nat.beq, cond_true, cond_false, Bool.false_eq_true, if_false, if_true, bin, binInt, un, ok, Rd.run, Nat.reduceLT, true_and, Heap.puts, Heap.put, Heap.at?, decide_true, decide_false, yields, skipped, isSkip, indexAddrR, fieldAddrR, loadR, builtinR, lenB, lenKd, lenR, conv, partOf, TI.agg, List.length_map, List.length_cons, List.length_nil, List.getElem?_map, List.getElem?_cons_zero, List.getElem?_cons_succ, Option.map_some, Option.bind_some, Nat.reduceAdd, Nat.reduceEqDiff, beq_iff_eq, decide_eq_true_eq, Int.natCast_eq_zero, natOf_cast, FQ_ret, FQ_normal, resAll, resOne, oneOf, finish_plain, pl_int, pl_bool, pl_str, pl_fz, pl_agg, pl_tup, pl_clo, pl_undef, pl_nil, pl_cons, Bool.and_self, Bool.and_true, all_int, all_str, int_enc, str_enc, bool_enc, Int.ofNat_lt, boxR, allocR, storeR, overwrite, buildR, fillS, Option.isSome_some, V.cells, V.isCell, List.all_cons, List.all_nil, Bool.and_true, Bool.true_and, not_false_eq_true, and_true, and_self, V.anyIds, V.hasIds, Bool.or_false, Bool.not_false, Bool.or_self, buildSliceR, parts, fillR, List.replicate_succ, List.replicate_zero, List.set_cons_zero, rowIds, appendB, rows?, append_look, appL_some, append_none, List.map_nil, Bool.and_self, Nat.reduceMul, List.length_append, false_or, ne_eq, Nat.one_ne_zero, Nat.lt_add_one, or_self, extractR, max2, min2, List.getElem?_toArray, List.singleton_append, List.append_nil, Bool.and_false, Bool.false_and, eqV4, Bool.true_beq, Bool.false_beq, Bool.not_true, Bool.not_false, WB_nil, WB_cons, WB_guard, BG_true, BG_false, BG_false_none, BA_some, BA_none, QA_noise, QA_noise_none, sigQ_nil, sigQ_snoc, ids1, apB, hits, hasN, Bool.true_or, Bool.false_or, Bool.or_true, Nat.zero_add, List.size_toArray, EQ_ret, EQ_normal, T_1, T_3, T_4, T_5, T_9, T_22, T_42, T_51, T_69, T_76, T_90, T_91, T_93, T_95, T_96, T_98, T_100, T_112, T_121, T_145, hkt, hy, hc2, wrap_i64s (show k < 1000000000000000000 by omega)]
        exact ⟨k + 1, ⟨by omega, hq⟩, by simp only; omega, rfl⟩
      | false =>
        rw [k1] at hq
        simp only [find_some_iff, k1, k93_enc] at hc2
        have hwb : wholeB l = false := by
          rw [← hg, ← hq]
          rfl
        rw [if_pos hwb]
        simp only [W_skip, W_exit, W_ret, W_seq, SQ_normal, SQ_exit, SQ_ret, W_block, BQ_normal, BQ_exit, BQ_ret, W_cond, WC_bool, W_draw_q, WQ_nil, WQ_cons, WQ_guard, QG_true, QG_false, QA_quiet, Heap.pad, List.nil_append, List.cons_append, pickR, List.take_succ_cons, List.take_zero, List.take_nil, List.drop_zero, List.drop_succ_cons, binStr, Nat.reduceLeDiff, W_region, WO_nil, WO_cons, WO_move, WO_assign, WO_guard, WG_true, WG_false, WA_some, WA_none, LP_exit, LP_ret, aop, ev, evs, lk, ofConst, ofCell, Nat.beq, cond_true, cond_false, Bool.false_eq_true, if_false, if_true, bin, binInt, un, ok, Rd.run, Nat.reduceLT, true_and, Heap.puts, Heap.put, Heap.at?, decide_true, decide_false, yields, skipped, isSkip, indexAddrR, fieldAddrR, loadR, builtinR, lenB, lenKd, lenR, conv, partOf, TI.agg, List.length_map, List.length_cons, List.length_nil, List.getElem?_map, List.getElem?_cons_zero, List.getElem?_cons_succ, Option.map_some, Option.bind_some, Nat.reduceAdd, Nat.reduceEqDiff, beq_iff_eq, decide_eq_true_eq, Int.natCast_eq_zero, natOf_cast, FQ_ret, FQ_normal, resAll, resOne, oneOf, finish_plain, pl_int, pl_bool, pl_str, pl_fz, pl_agg, pl_tup, pl_clo, pl_undef, pl_nil, pl_cons, Bool.and_self, Bool.and_true, all_int, all_str, int_enc, str_enc, bool_enc, Int.ofNat_lt, boxR, allocR, storeR, overwrite, buildR, fillS, Option.isSome_some, V.cells, V.isCell, List.all_cons, List.all_nil, Bool.and_true, Bool.true_and, not_false_eq_true, and_true, and_self, V.anyIds, V.hasIds, Bool.or_false, Bool.not_false, Bool.or_self, buildSliceR, parts, fillR, List.replicate_succ, List.replicate_zero, List.set_cons_zero, rowIds, appendB, rows?, append_look, appL_some, append_none, List.map_nil, Bool.and_self, Nat.reduceMul, List.length_append, false_or, ne_eq, Nat.one_ne_zero, Nat.lt_add_one, or_self, extractR, max2, min2, List.getElem?_toArray, List.singleton_append, List.append_nil, Bool.and_false, Bool.false_and, eqV4, Bool.true_beq, Bool.false_beq, Bool.not_true, Bool.not_false, WB_nil, WB_cons, WB_guard, BG_true, BG_false, BG_false_none, BA_some, BA_none, QA_noise, QA_noise_none, sigQ_nil, sigQ_snoc, ids1, apB, hits, hasN, Bool.true_or, Bool.false_or, Bool.or_true, Nat.zero_add, List.size_toArray, EQ_ret, EQ_normal, T_1, T_3, T_4, T_5, T_9, T_22, T_42, T_51, T_69, T_76, T_90, T_91, T_93, T_95, T_96, T_98, T_100, T_112, T_121, T_145, hkt, hy, hc2]
        show _ = _
        kernel_rfl
    · rw [List.drop_eq_nil_of_le (by omega)] at hq
      rw [← hq] at hg
      simp only [W_skip, W_exit, W_ret, W_seq, SQ_normal, SQ_exit, SQ_ret, W_block, BQ_normal, BQ_exit, BQ_ret, W_cond, WC_bool, W_draw_q, WQ_nil, WQ_cons, WQ_guard, QG_true, QG_false, QA_quiet, Heap.pad, List.nil_append, List.cons_append, pickR, List.take_succ_cons, List.take_zero, List.take_nil, List.drop_zero, List.drop_succ_cons, binStr, Nat.reduceLeDiff, W_region, WO_nil, WO_cons, WO_move, WO_assign, WO_guard, WG_true, WG_false, WA_some, WA_none, LP_exit, LP_ret, aop, ev, evs, lk, ofConst, ofCell, Nat.beq, cond_true, cond_false, Bool.false_eq_true, if_false, if_true, bin, binInt, un, ok, Rd.run, Nat.reduceLT, true_and, Heap.puts, Heap.put, Heap.at?, decide_true, decide_false, yields, skipped, isSkip, indexAddrR, fieldAddrR, loadR, builtinR, lenB, lenKd, lenR, conv, partOf, TI.agg, List.length_map, List.length_cons, List.length_nil, List.getElem?_map, List.getElem?_cons_zero, List.getElem?_cons_succ, Option.map_some, Option.bind_some, Nat.reduceAdd, Nat.reduceEqDiff, beq_iff_eq, decide_eq_true_eq, Int.natCast_eq_zero, natOf_cast, FQ_ret, FQ_normal, resAll, resOne, oneOf, finish_plain, pl_int, pl_bool, pl_str, pl_fz, pl_agg, pl_tup, pl_clo, pl_undef, pl_nil, pl_cons, Bool.and_self, Bool.and_true, all_int, all_str, int_enc, str_enc, bool_enc, Int.ofNat_lt, boxR, allocR, storeR, overwrite, buildR, fillS, Option.isSome_some, V.cells, V.isCell, List.all_cons, List.all_nil, Bool.and_true, Bool.true_and, not_false_eq_true, and_true, and_self, V.anyIds, V.hasIds, Bool.or_false, Bool.not_false, Bool.or_self, buildSliceR, parts, fillR, List.replicate_succ, List.replicate_zero, List.set_cons_zero, rowIds, appendB, rows?, append_look, appL_some, append_none, List.map_nil, Bool.and_self, Nat.reduceMul, List.length_append, false_or, ne_eq, Nat.one_ne_zero, Nat.lt_add_one, or_self, extractR, max2, min2, List.getElem?_toArray, List.singleton_append, List.append_nil, Bool.and_false, Bool.false_and, eqV4, Bool.true_beq, Bool.false_beq, Bool.not_true, Bool.not_false, WB_nil, WB_cons, WB_guard, BG_true, BG_false, BG_false_none, BA_some, BA_none, QA_noise, QA_noise_none, sigQ_nil, sigQ_snoc, ids1, apB, hits, hasN, Bool.true_or, Bool.false_or, Bool.or_true, Nat.zero_add, List.size_toArray, EQ_ret, EQ_normal, T_1, T_3, T_4, T_5, T_9, T_22, T_42, T_51, T_69, T_76, T_90, T_91, T_93, T_95, T_96, T_98, T_100, T_112, T_121, T_145, hkt, wrap_i64s (show i < 1000000000000000000 by omega)]
      exact ⟨i + 1, ⟨by omega, hg⟩, by simp only; omega, rfl⟩
  rw [List.drop_eq_nil_of_le (by omega)] at hg
  have hwb : wholeB l = true := by rw [← hg]; rfl
  have hwl := whole_iff.1 hwb
  have hc69 := call69 l ⟨hl1, hln⟩ hr hwl
  rw [hwb]
  simp only [Bool.true_eq_false, if_false]
  by_cases hst : Stable l l.length
  · rw [if_pos hst]
    have hdt : decide (Stable l l.length) = true := decide_eq_true hst
    rw [hdt] at hc69
    simp only [W_skip, W_exit, W_ret, W_seq, SQ_normal, SQ_exit, SQ_ret, W_block, BQ_normal, BQ_exit, BQ_ret, W_cond, WC_bool, W_draw_q, WQ_nil, WQ_cons, WQ_guard, QG_true, QG_false, QA_quiet, Heap.pad, List.nil_append, List.cons_append, pickR, List.take_succ_cons, List.take_zero, List.take_nil, List.drop_zero, List.drop_succ_cons, binStr, Nat.reduceLeDiff, W_region, WO_nil, WO_cons, WO_move, WO_assign, WO_guard, WG_true, WG_false, WA_some, WA_none, LP_exit, LP_ret, aop, ev, evs, lk, ofConst, ofCell, Nat.beq, cond_true, cond_false, Bool.false_eq_true, if_false, if_true, bin, binInt, un, ok, Rd.run, Nat.reduceLT, true_and, Heap.puts, Heap.put, Heap.at?, decide_true, decide_false, yields, skipped, isSkip, indexAddrR, fieldAddrR, loadR, builtinR, lenB, lenKd, lenR, conv, partOf, TI.agg, List.length_map, List.length_cons, List.length_nil, List.getElem?_map, List.getElem?_cons_zero, List.getElem?_cons_succ, Option.map_some, Option.bind_some, Nat.reduceAdd, Nat.reduceEqDiff, beq_iff_eq, decide_eq_true_eq, Int.natCast_eq_zero, natOf_cast, FQ_ret, FQ_normal, resAll, resOne, oneOf, finish_plain, pl_int, pl_bool, pl_str, pl_fz, pl_agg, pl_tup, pl_clo, pl_undef, pl_nil, pl_cons, Bool.and_self, Bool.and_true, all_int, all_str, int_enc, str_enc, bool_enc, Int.ofNat_lt, boxR, allocR, storeR, overwrite, buildR, fillS, Option.isSome_some, V.cells, V.isCell, List.all_cons, List.all_nil, Bool.and_true, Bool.true_and, not_false_eq_true, and_true, and_self, V.anyIds, V.hasIds, Bool.or_false, Bool.not_false, Bool.or_self, buildSliceR, parts, fillR, List.replicate_succ, List.replicate_zero, List.set_cons_zero, rowIds, appendB, rows?, append_look, appL_some, append_none, List.map_nil, Bool.and_self, Nat.reduceMul, List.length_append, false_or, ne_eq, Nat.one_ne_zero, Nat.lt_add_one, or_self, extractR, max2, min2, List.getElem?_toArray, List.singleton_append, List.append_nil, Bool.and_false, Bool.false_and, eqV4, Bool.true_beq, Bool.false_beq, Bool.not_true, Bool.not_false, WB_nil, WB_cons, WB_guard, BG_true, BG_false, BG_false_none, BA_some, BA_none, QA_noise, QA_noise_none, sigQ_nil, sigQ_snoc, ids1, apB, hits, hasN, Bool.true_or, Bool.false_or, Bool.or_true, Nat.zero_add, List.size_toArray, EQ_ret, EQ_normal, T_1, T_3, T_4, T_5, T_9, T_22, T_42, T_51, T_69, T_76, T_90, T_91, T_93, T_95, T_96, T_98, T_100, T_112, T_121, T_145, hlt, hc69]
    refine loop_rule (ι := Nat) (S := fun i => ⟨[(0, .fz (l.map k95.enc)), (4, .ms 0 6 0 0 none), (11, .fz ((dks l (l.length + 1)).map (Cd.int .i64).enc)), (13, .ms 1 6 0 i none), (91, .int .i64 l.length), (92, .int .i64 i)], [some (.buf 6 [] false true), some (.buf 6 (((l.take i).map (fixI l)).map k95.enc) false true)]⟩) (m := fun i => l.length + 1 - i)
      (I := fun i => i ≤ l.length) ?_ 0 _ (by simp) rfl
    clear hi hlt
    intro i hi
    by_cases hlt : i < l.length
    · have hx : l[i]? = some l[i] := List.getElem?_eq_getElem hlt
      have hn := hln l[i] (List.getElem_mem hlt)
      have hc := call66 l[i].f1 l (dks l (l.length + 1)) hn ⟨hl1, hln⟩ (.inr (dks_len _ _))
      have hat : withN (fun b => at_ b l (dks l (l.length + 1))) l[i].f1 = withN (dp l) l[i].f1 := withN_congr fun b hb => by
        obtain ⟨y, hy, hyb⟩ := hwl l[i] (List.getElem_mem hlt) b hb
        have h0 : (dks l (l.length + 1)).length ≠ 0 := by rw [dks_len]; omega
        unfold at_
        rw [if_neg h0]
        unfold dks
        rw [atGo_map (g := dk l (l.length + 1)) ⟨y, hy, hyb⟩, ← hyb, hst y hy]
        rfl
      rw [hat] at hc
      simp only [k93_enc] at hc
      have hy : (dks l (l.length + 1))[i]? = some (dk l (l.length + 1) l[i].f0) := by
        unfold dks
        rw [List.getElem?_map, hx]
        rfl
      have htl : (l.take i).length = i := by simp; omega
      have hd : decide (dk l (l.length + 1) l[i].f0 ≥ 65535) = false := by
        have := dk_le (l := l) (k := l.length + 1) (b := l[i].f0)
        exact decide_eq_false (by omega)
      have e : ((l.take i).map (fixI l)).map k95.enc ++ [[.int .u32 l[i].f0, .bool (withN (dp l) l[i].f1).f0, .fz ((withN (dp l) l[i].f1).f1.map k145.enc), .fz ((withN (dp l) l[i].f1).f2.map Cd.str.enc), .fz ((withN (dp l) l[i].f1).f3.map k100.enc), .fz ((withN (dp l) l[i].f1).f4.map k121.enc)]] =
          ((l.take (i + 1)).map (fixI l)).map k95.enc := by
        rw [List.take_succ_eq_append_getElem hlt, List.map_append, List.map_append]
        rfl
      simp only [W_skip, W_exit, W_ret, W_seq, SQ_normal, SQ_exit, SQ_ret, W_block, BQ_normal, BQ_exit, BQ_ret, W_cond, WC_bool, W_draw_q, WQ_nil, WQ_cons, WQ_guard, QG_true, QG_false, QA_quiet, Heap.pad, List.nil_append, List.cons_append, pickR, List.take_succ_cons, List.take_zero, List.take_nil, List.drop_zero, List.drop_succ_cons, binStr, Nat.reduceLeDiff, W_region, WO_nil, WO_cons, WO_move, WO_assign, WO_guard, WG_true, WG_false, WA_some, WA_none, LP_exit, LP_ret, aop, ev, evs, lk, ofConst, ofCell, Nat.beq, cond_true, cond_false, Bool.false_eq_true, if_false, if_true, bin, binInt, un, ok, Rd.run, Nat.reduceLT, true_and, Heap.puts, Heap.put, Heap.at?, decide_true, decide_false, yields, skipped, isSkip, indexAddrR, fieldAddrR, loadR, builtinR, lenB, lenKd, lenR, conv, partOf, TI.agg, List.length_map, List.length_cons, List.length_nil, List.getElem?_map, List.getElem?_cons_zero, List.getElem?_cons_succ, Option.map_some, Option.bind_some, Nat.reduceAdd, Nat.reduceEqDiff, beq_iff_eq, decide_eq_true_eq, Int.natCast_eq_zero, natOf_cast, FQ_ret, FQ_normal, resAll, resOne, oneOf, finish_plain, pl_int, pl_bool, pl_str, pl_fz, pl_agg, pl_tup, pl_clo, pl_undef, pl_nil, pl_cons, Bool.and_self, Bool.and_true, all_int, all_str, int_enc, str_enc, bool_enc, Int.ofNat_lt, boxR, allocR, storeR, overwrite, buildR, fillS, Option.isSome_some, V.cells, V.isCell, List.all_cons, List.all_nil, Bool.and_true, Bool.true_and, not_false_eq_true, and_true, and_self, V.anyIds, V.hasIds, Bool.or_false, Bool.not_false, Bool.or_self, buildSliceR, parts, fillR, List.replicate_succ, List.replicate_zero, List.set_cons_zero, rowIds, appendB, rows?, append_look, appL_some, append_none, List.map_nil, Bool.and_self, Nat.reduceMul, List.length_append, false_or, ne_eq, Nat.one_ne_zero, Nat.lt_add_one, or_self, extractR, max2, min2, List.getElem?_toArray, List.singleton_append, List.append_nil, Bool.and_false, Bool.false_and, eqV4, Bool.true_beq, Bool.false_beq, Bool.not_true, Bool.not_false, WB_nil, WB_cons, WB_guard, BG_true, BG_false, BG_false_none, BA_some, BA_none, QA_noise, QA_noise_none, sigQ_nil, sigQ_snoc, ids1, apB, hits, hasN, Bool.true_or, Bool.false_or, Bool.or_true, Nat.zero_add, List.size_toArray, EQ_ret, EQ_normal, T_1, T_3, T_4, T_5, T_9, T_22, T_42, T_51, T_69, T_76, T_90, T_91, T_93, T_95, T_96, T_98, T_100, T_112, T_121, T_145, all95, hlt, hx, hy, hd, k95_enc, hc, htl, wrap_i64s (show i < 1000000000000000000 by omega), show (i + 1) * 112 ≤ 140737488355328 by omega, show i + 1 ≤ 140737488355328 by omega]
      repeat (refine ⟨by kernel_rfl, ?_⟩)
      refine ⟨i + 1, by omega, by simp only; omega, ?_⟩
      rw [e]
      show _ = _
      kernel_rfl
    obtain rfl : i = l.length := by omega
    simp only [W_skip, W_exit, W_ret, W_seq, SQ_normal, SQ_exit, SQ_ret, W_block, BQ_normal, BQ_exit, BQ_ret, W_cond, WC_bool, W_draw_q, WQ_nil, WQ_cons, WQ_guard, QG_true, QG_false, QA_quiet, Heap.pad, List.nil_append, List.cons_append, pickR, List.take_succ_cons, List.take_zero, List.take_nil, List.drop_zero, List.drop_succ_cons, binStr, Nat.reduceLeDiff, W_region, WO_nil, WO_cons, WO_move, WO_assign, WO_guard, WG_true, WG_false, WA_some, WA_none, LP_exit, LP_ret, aop, ev, evs, lk, ofConst, ofCell, Nat.beq, cond_true, cond_false, Bool.false_eq_true, if_false, if_true, bin, binInt, un, ok, Rd.run, Nat.reduceLT, true_and, Heap.puts, Heap.put, Heap.at?, decide_true, decide_false, yields, skipped, isSkip, indexAddrR, fieldAddrR, loadR, builtinR, lenB, lenKd, lenR, conv, partOf, TI.agg, List.length_map, List.length_cons, List.length_nil, List.getElem?_map, List.getElem?_cons_zero, List.getElem?_cons_succ, Option.map_some, Option.bind_some, Nat.reduceAdd, Nat.reduceEqDiff, beq_iff_eq, decide_eq_true_eq, Int.natCast_eq_zero, natOf_cast, FQ_ret, FQ_normal, resAll, resOne, oneOf, finish_plain, pl_int, pl_bool, pl_str, pl_fz, pl_agg, pl_tup, pl_clo, pl_undef, pl_nil, pl_cons, Bool.and_self, Bool.and_true, all_int, all_str, int_enc, str_enc, bool_enc, Int.ofNat_lt, boxR, allocR, storeR, overwrite, buildR, fillS, Option.isSome_some, V.cells, V.isCell, List.all_cons, List.all_nil, Bool.and_true, Bool.true_and, not_false_eq_true, and_true, and_self, V.anyIds, V.hasIds, Bool.or_false, Bool.not_false, Bool.or_self, buildSliceR, parts, fillR, List.replicate_succ, List.replicate_zero, List.set_cons_zero, rowIds, appendB, rows?, append_look, appL_some, append_none, List.map_nil, Bool.and_self, Nat.reduceMul, List.length_append, false_or, ne_eq, Nat.one_ne_zero, Nat.lt_add_one, or_self, extractR, max2, min2, List.getElem?_toArray, List.singleton_append, List.append_nil, Bool.and_false, Bool.false_and, eqV4, Bool.true_beq, Bool.false_beq, Bool.not_true, Bool.not_false, WB_nil, WB_cons, WB_guard, BG_true, BG_false, BG_false_none, BA_some, BA_none, QA_noise, QA_noise_none, sigQ_nil, sigQ_snoc, ids1, apB, hits, hasN, Bool.true_or, Bool.false_or, Bool.or_true, Nat.zero_add, List.size_toArray, EQ_ret, EQ_normal, T_1, T_3, T_4, T_5, T_9, T_22, T_42, T_51, T_69, T_76, T_90, T_91, T_93, T_95, T_96, T_98, T_100, T_112, T_121, T_145, hlt]
    rw [List.take_of_length_le (Nat.le_refl _)]
    refine finish_fk ?_
    simp only [frz, frzAll, frzG, frzGAll, ms2, msUp, Rd.run, Heap.at?, List.length_map, Nat.zero_add, Nat.le_refl, and_self, if_true, List.drop_zero, take_map2, FK, List.cons_append, List.nil_append, fixed]
    show _ = _
    kernel_rfl
  · rw [if_neg hst]
    have hdt : decide (Stable l l.length) = false := decide_eq_false hst
    rw [hdt] at hc69
    simp only [W_skip, W_exit, W_ret, W_seq, SQ_normal, SQ_exit, SQ_ret, W_block, BQ_normal, BQ_exit, BQ_ret, W_cond, WC_bool, W_draw_q, WQ_nil, WQ_cons, WQ_guard, QG_true, QG_false, QA_quiet, Heap.pad, List.nil_append, List.cons_append, pickR, List.take_succ_cons, List.take_zero, List.take_nil, List.drop_zero, List.drop_succ_cons, binStr, Nat.reduceLeDiff, W_region, WO_nil, WO_cons, WO_move, WO_assign, WO_guard, WG_true, WG_false, WA_some, WA_none, LP_exit, LP_ret, aop, ev, evs, lk, ofConst, ofCell, Nat.beq, cond_true, cond_false, Bool.false_eq_true, if_false, if_true, bin, binInt, un, ok, Rd.run, Nat.reduceLT, true_and, Heap.puts, Heap.put, Heap.at?, decide_true, decide_false, yields, skipped, isSkip, indexAddrR, fieldAddrR, loadR, builtinR, lenB, lenKd, lenR, conv, partOf, TI.agg, List.length_map, List.length_cons, List.length_nil, List.getElem?_map, List.getElem?_cons_zero, List.getElem?_cons_succ, Option.map_some, Option.bind_some, Nat.reduceAdd, Nat.reduceEqDiff, beq_iff_eq, decide_eq_true_eq, Int.natCast_eq_zero, natOf_cast, FQ_ret, FQ_normal, resAll, resOne, oneOf, finish_plain, pl_int, pl_bool, pl_str, pl_fz, pl_agg, pl_tup, pl_clo, pl_undef, pl_nil, pl_cons, Bool.and_self, Bool.and_true, all_int, all_str, int_enc, str_enc, bool_enc, Int.ofNat_lt, boxR, allocR, storeR, overwrite, buildR, fillS, Option.isSome_some, V.cells, V.isCell, List.all_cons, List.all_nil, Bool.and_true, Bool.true_and, not_false_eq_true, and_true, and_self, V.anyIds, V.hasIds, Bool.or_false, Bool.not_false, Bool.or_self, buildSliceR, parts, fillR, List.replicate_succ, List.replicate_zero, List.set_cons_zero, rowIds, appendB, rows?, append_look, appL_some, append_none, List.map_nil, Bool.and_self, Nat.reduceMul, List.length_append, false_or, ne_eq, Nat.one_ne_zero, Nat.lt_add_one, or_self, extractR, max2, min2, List.getElem?_toArray, List.singleton_append, List.append_nil, Bool.and_false, Bool.false_and, eqV4, Bool.true_beq, Bool.false_beq, Bool.not_true, Bool.not_false, WB_nil, WB_cons, WB_guard, BG_true, BG_false, BG_false_none, BA_some, BA_none, QA_noise, QA_noise_none, sigQ_nil, sigQ_snoc, ids1, apB, hits, hasN, Bool.true_or, Bool.false_or, Bool.or_true, Nat.zero_add, List.size_toArray, EQ_ret, EQ_normal, T_1, T_3, T_4, T_5, T_9, T_22, T_42, T_51, T_69, T_76, T_90, T_91, T_93, T_95, T_96, T_98, T_100, T_112, T_121, T_145, hlt, hc69]
    show _ = _
    kernel_rfl

theorem lim17 (l : List S95) (hl : fewL l) (h30 : l.length ≤ 30) : lim T fns 17 [.fz (l.map k95.enc)] [] = some (.tup [.fz ((fixP l).1.map k95.enc), .int .i64 (fixP l).2], []) := by
  cases hf : formedB none l with
  | false =>
    rw [lim17a l hl hf]
    unfold fixP
    rw [if_pos hf]
    rfl
  | true => exact lim17b l hl h30 hf
theorem call17 (l : List S95) (hl : fewL l) (h30 : l.length ≤ 30) (k : Nat) : callV (LX T fns) k (.clo 17 []) [.fz (l.map k95.enc)] = .pure (.tup [.fz ((fixP l).1.map k95.enc), .int .i64 (fixP l).2], []) := callV_plain (fn := fn17) rfl rfl rfl (lim17 l hl h30) k
end Go.Proofs.Ytfdemnefkfkghaa.R
