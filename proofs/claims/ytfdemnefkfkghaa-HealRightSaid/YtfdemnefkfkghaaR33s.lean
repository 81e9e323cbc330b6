/- Chapter 33's law: a graph, fixed (the program's). -/
import Derived.Test.YtfdemnefkfkghaaR33r
namespace Go.Proofs.Ytfdemnefkfkghaa.R
open Go Go.Proofs
set_option linter.unusedSimpArgs false
set_option linter.unusedVariables false
set_option maxRecDepth 10000
set_option maxHeartbeats 4000000

/-- In the end, as a number of sixteen bits. -/
def dp (l : List S95) (b : Int) : Int := IntKind.u16.wrap (dk l l.length b)
def fixI (l : List S95) (x : S95) : S95 := ⟨x.f0, withN (dp l) x.f1⟩
def fixed (l : List S95) : List S95 := l.map (fixI l)
/-- What Fix answers. -/
def fixP (l : List S95) : List S95 × Int := if formedB none l = false then ([], 3) else if wholeB l = false then ([], 11) else if Stable l l.length then (fixed l, 0) else ([], 16)

theorem rises_of_formed : ∀ {l : List S95} {p : Option Int}, formedB p l = true → risesB l = true
  | [], _, _ => rfl
  | [x], _, _ => rfl
  | x :: y :: r, p, h => by
    have h2 : formedB (some x.f0) (y :: r) = true := by
      cases p <;> (simp only [formedB, Bool.and_eq_true] at h ⊢; exact h.2)
    have h3 : x.f0 < y.f0 := by
      simp only [formedB, Bool.and_eq_true, Bool.not_eq_true', decide_eq_false_iff_not] at h2
      omega
    have h4 : formedB none (y :: r) = true := by
      simp only [formedB, Bool.and_eq_true] at h2 ⊢
      exact ⟨h2.1.2, h2.2⟩
    simp only [risesB, Bool.and_eq_true, decide_eq_true_eq]
    exact ⟨h3, rises_of_formed h4⟩
theorem inL_iff {b : Int} {l : List S95} : inL b l = true ↔ ∃ y ∈ l, y.f0 = b := by
  unfold inL
  simp only [List.any_eq_true, beq_iff_eq]
theorem whole_iff {l : List S95} : wholeB l = true ↔ Whole l := by
  unfold wholeB Whole
  simp only [List.all_eq_true, Bool.not_eq_true', List.any_eq_false, Bool.not_eq_eq_eq_not, Bool.not_true]
  constructor
  · intro h x hx t ht
    have := h x hx t ht
    simp only [Bool.not_eq_false] at this
    exact inL_iff.1 this
  · intro h x hx t ht
    have := inL_iff.2 (h x hx t ht)
    simp [this]
theorem mem_gotos {l : List S121} {m : S121} (hm : m ∈ l) (h3 : m.f0 = 3) : m.f3 ∈ gotos l := List.mem_map.2 ⟨m, List.mem_filter.2 ⟨hm, by simp [h3]⟩, rfl⟩
theorem withN_congr {n : S93} {f g : Int → Int} (h : ∀ b ∈ targets n, f b = g b) : withN f n = withN g n := by
  unfold withN
  have h1 : n.f3.map (withE f) = n.f3.map (withE g) := List.map_congr_left fun e he => by
    unfold withE
    rw [h e.f0 (List.mem_append_left _ (List.mem_map.2 ⟨e, he, rfl⟩))]
  have h2 : n.f4.map (withM f) = n.f4.map (withM g) := List.map_congr_left fun m hm => by
    unfold withM
    split
    · rename_i h3
      rw [h m.f3 (List.mem_append_right _ (mem_gotos hm h3))]
    · rfl
  rw [h1, h2]

def go0 : Ob := .buf 1 [[.ptr 2 0 0]] false false
def go2 : Ob := .buf 3 [[.map 3, .map 4, .bool false]] false false
theorem call62b {l : List S95} {m m' : List (Int × Int)} {b d : Int} {lost : Bool} (h : lim T fns 62 [.ptr 0 0 0, .int .u32 b] [ff false, fo2 l, fo3 m] = some (.int .i64 d, [some (ff lost), some (fo2 l), some (fo3 m')])) (n : Nat) (hn : 4 ≤ n) (rest : Heap) :
    (callV (LX T fns) n (.clo 62 []) [.ptr 1 0 0, .int .u32 b]).run (some fo0 :: some (fo1 false) :: some (fo2 l) :: some (fo3 m) :: rest) [] = some ((.int .i64 d, [(1, some (fo1 lost)), (2, some (fo2 l)), (3, some (fo3 m'))]), [3, 2, 1]) := by
  simp only [ff, fo0, fo1, fo2, fo3] at h ⊢
  have hf : fns 62 = some fn62 := rfl
  unfold callV
  simp only [hf]
  unfold callR
  simp only [fn62, List.cons_append, List.nil_append, List.append_nil, frzArgs, frz, frzAll, frzG, frzGAll, ms2, msUp, List.tail]
  simp only [V.allIds, V.ids, List.append_nil, List.nil_append, collect, List.map_nil, List.contains_nil, Bool.false_eq_true, if_false, Rd.run, Heap.at?, Ob.ids, rowsIds, List.map_cons, List.cons_append, List.contains_cons, Nat.reduceBEq, Bool.or_self, Bool.or_false, Bool.false_or, Bool.or_true, Bool.true_or, if_true]
  unfold withR
  simp only [List.map_cons, List.map_nil, upd1, List.all_nil, List.all_cons, show 0 < n by omega, show 1 < n by omega, show 2 < n by omega, show 3 < n by omega, decide_true, Bool.and_self, if_true, V.reAll, V.re, idx, Nat.beq, cond_true, cond_false, Option.bind_some, Option.map_some, pullObs, Ob.re, reRows, Nat.reduceAdd, h, List.length_cons, List.length_nil, Nat.le_refl]
  unfold afterR
  simp only [V.re, V.reAll, pushObs, back, nth, Ob.re, reRows, Option.bind_some, Option.map_some, List.isEmpty_cons, Bool.false_and, Bool.false_eq_true, if_false, Rd.run, List.append_nil, Nat.reduceAdd]
theorem call63b (x : S93) (l : List S95) (m : List (Int × Int)) (hx : fewN x) (n : Nat) (hn : 5 ≤ n) (o : Option Ob) (rest : Heap) :
    (callV (LX T fns) n (.clo 63 []) [.agg (k93.enc x), .clo 64 [.ptr 0 0 0]]).run (some go0 :: o :: some go2 :: some (fo2 l) :: some (fo3 m) :: rest) [] =
      some ((.agg (k93.enc (withN (deepI m) x)), [(0, some go0), (2, some go2), (3, some (fo2 l)), (4, some (fo3 m))]), [4, 3, 2, 0]) := by
  have h := lim63b x false l m hx
  simp only [go0, go2, fo0, fo1, fo2, fo3, k93_enc] at h ⊢
  have hf : fns 63 = some fn63 := rfl
  unfold callV
  simp only [hf]
  unfold callR
  simp only [fn63, List.cons_append, List.nil_append, List.append_nil, frzArgs, frz, frzAll, frzG, frzGAll, ms2, msUp, List.tail]
  simp only [V.allIds, V.ids, List.append_nil, List.nil_append, collect, List.map_nil, List.contains_nil, Bool.false_eq_true, if_false, Rd.run, Heap.at?, Ob.ids, rowsIds, List.map_cons, List.cons_append, List.contains_cons, Nat.reduceBEq, Bool.or_self, Bool.or_false, Bool.false_or, Bool.or_true, Bool.true_or, if_true]
  unfold withR
  simp only [List.map_cons, List.map_nil, upd1, List.all_nil, List.all_cons, show 0 < n by omega, show 1 < n by omega, show 2 < n by omega, show 3 < n by omega, show 4 < n by omega, decide_true, Bool.and_self, if_true, V.reAll, V.re, idx, Nat.beq, cond_true, cond_false, Option.bind_some, Option.map_some, pullObs, Ob.re, reRows, Nat.reduceAdd, h, List.length_cons, List.length_nil, Nat.le_refl]
  unfold afterR
  simp only [V.re, V.reAll, pushObs, back, nth, Ob.re, reRows, Option.bind_some, Option.map_some, List.isEmpty_cons, Bool.false_and, Bool.false_eq_true, if_false, Rd.run, List.append_nil, Nat.reduceAdd]

theorem lim16 (l : List S95) (hl : fewL l) (h30 : l.length ≤ 30) (hw : wfL l) : lim T fns 16 [.fz (l.map k95.enc)] [] = some (.tup [.fz ((fixP l).1.map k95.enc), .int .i64 (fixP l).2], []) := by
  obtain ⟨hl1, hln⟩ := hl
  have hk : ∀ b, isKey T 42 (.int .u32 b) = true := fun b => rfl
  have hc60 := call60 l ⟨hl1, hln⟩ hw
  unfold fixP
  cases hf : formedB none l with
  | false =>
    simp only [hf, Bool.false_eq_true, if_false] at hc60
    refine fn_rule (fn := fn16) rfl rfl (by simp [fn16]) ?_
    unfold fn16
    simp only [Try.f16, Option.getD_some, argEnv, List.map_nil, List.length_nil]
    simp only [W_skip, W_exit, W_ret, W_seq, SQ_normal, SQ_exit, SQ_ret, W_block, BQ_normal, BQ_exit, BQ_ret, W_cond, WC_bool, W_draw_q, WQ_nil, WQ_cons, WQ_guard, QG_true, QG_false, QA_quiet, Heap.pad, List.nil_append, List.cons_append, pickR, List.take_succ_cons, List.take_zero, List.take_nil, List.drop_zero, List.drop_succ_cons, binStr, Nat.reduceLeDiff, W_region, WO_nil, WO_cons, WO_move, WO_assign, WO_guard, WG_true, WG_false, WA_some, WA_none, LP_exit, LP_ret, aop, ev, evs, lk, ofConst, ofCell, Nat.beq, cond_true, cond_false, Bool.false_eq_true, if_false, if_true, bin, binInt, un, ok, Rd.run, Nat.reduceLT, true_and, Heap.puts, Heap.put, Heap.at?, decide_true, decide_false, yields, skipped, isSkip, indexAddrR, fieldAddrR, loadR, builtinR, lenB, lenKd, lenR, conv, partOf, TI.agg, List.length_map, List.length_cons, List.length_nil, List.getElem?_map, List.getElem?_cons_zero, List.getElem?_cons_succ, Option.map_some, Option.bind_some, Nat.reduceAdd, Nat.reduceEqDiff, beq_iff_eq, decide_eq_true_eq, Int.natCast_eq_zero, natOf_cast, FQ_ret, FQ_normal, resAll, resOne, oneOf, finish_plain, pl_int, pl_bool, pl_str, pl_fz, pl_agg, pl_tup, pl_clo, pl_undef, pl_nil, pl_cons, Bool.and_self, Bool.and_true, all_int, all_str, int_enc, str_enc, bool_enc, Int.ofNat_lt, boxR, allocR, storeR, overwrite, buildR, fillS, Option.isSome_some, V.cells, V.isCell, List.all_cons, List.all_nil, Bool.and_true, Bool.true_and, not_false_eq_true, and_true, and_self, V.anyIds, V.hasIds, Bool.or_false, Bool.not_false, Bool.or_self, buildSliceR, parts, fillR, List.replicate_succ, List.replicate_zero, List.set_cons_zero, rowIds, appendB, rows?, append_look, appL_some, append_none, List.map_nil, Bool.and_self, Nat.reduceMul, List.length_append, false_or, ne_eq, Nat.one_ne_zero, Nat.lt_add_one, or_self, extractR, max2, min2, List.getElem?_toArray, List.singleton_append, List.append_nil, Bool.and_false, Bool.false_and, eqV4, Bool.true_beq, Bool.false_beq, Bool.not_true, Bool.not_false, WB_nil, WB_cons, WB_guard, BG_true, BG_false, BG_false_none, BA_some, BA_none, QA_noise, QA_noise_none, sigQ_nil, sigQ_snoc, ids1, apB, hits, hasN, Bool.true_or, Bool.false_or, Bool.or_true, Nat.zero_add, List.size_toArray, EQ_ret, EQ_normal, T_1, T_3, T_4, T_5, T_9, T_22, T_25, T_42, T_51, T_69, T_90, T_91, T_93, T_95, T_96, T_98, T_100, T_102, T_103, T_104, T_106, T_109, T_121, T_145, hc60]
    show _ = _
    kernel_rfl
  | true =>
  have hr := rises_of_formed hf
  have hc61 := call61 l ⟨hl1, hln⟩ hr
  simp only [hf, if_true] at hc60
  cases hwb : wholeB l with
  | false =>
    rw [hwb] at hc61
    refine fn_rule (fn := fn16) rfl rfl (by simp [fn16]) ?_
    unfold fn16
    simp only [Try.f16, Option.getD_some, argEnv, List.map_nil, List.length_nil]
    simp only [W_skip, W_exit, W_ret, W_seq, SQ_normal, SQ_exit, SQ_ret, W_block, BQ_normal, BQ_exit, BQ_ret, W_cond, WC_bool, W_draw_q, WQ_nil, WQ_cons, WQ_guard, QG_true, QG_false, QA_quiet, Heap.pad, List.nil_append, List.cons_append, pickR, List.take_succ_cons, List.take_zero, List.take_nil, List.drop_zero, List.drop_succ_cons, binStr, Nat.reduceLeDiff, W_region, WO_nil, WO_cons, WO_move, WO_assign, WO_guard, WG_true, WG_false, WA_some, WA_none, LP_exit, LP_ret, aop, ev, evs, lk, ofConst, ofCell, Nat.beq, cond_true, cond_false, Bool.false_eq_true, if_false, if_true, bin, binInt, un, ok, Rd.run, Nat.reduceLT, true_and, Heap.puts, Heap.put, Heap.at?, decide_true, decide_false, yields, skipped, isSkip, indexAddrR, fieldAddrR, loadR, builtinR, lenB, lenKd, lenR, conv, partOf, TI.agg, List.length_map, List.length_cons, List.length_nil, List.getElem?_map, List.getElem?_cons_zero, List.getElem?_cons_succ, Option.map_some, Option.bind_some, Nat.reduceAdd, Nat.reduceEqDiff, beq_iff_eq, decide_eq_true_eq, Int.natCast_eq_zero, natOf_cast, FQ_ret, FQ_normal, resAll, resOne, oneOf, finish_plain, pl_int, pl_bool, pl_str, pl_fz, pl_agg, pl_tup, pl_clo, pl_undef, pl_nil, pl_cons, Bool.and_self, Bool.and_true, all_int, all_str, int_enc, str_enc, bool_enc, Int.ofNat_lt, boxR, allocR, storeR, overwrite, buildR, fillS, Option.isSome_some, V.cells, V.isCell, List.all_cons, List.all_nil, Bool.and_true, Bool.true_and, not_false_eq_true, and_true, and_self, V.anyIds, V.hasIds, Bool.or_false, Bool.not_false, Bool.or_self, buildSliceR, parts, fillR, List.replicate_succ, List.replicate_zero, List.set_cons_zero, rowIds, appendB, rows?, append_look, appL_some, append_none, List.map_nil, Bool.and_self, Nat.reduceMul, List.length_append, false_or, ne_eq, Nat.one_ne_zero, Nat.lt_add_one, or_self, extractR, max2, min2, List.getElem?_toArray, List.singleton_append, List.append_nil, Bool.and_false, Bool.false_and, eqV4, Bool.true_beq, Bool.false_beq, Bool.not_true, Bool.not_false, WB_nil, WB_cons, WB_guard, BG_true, BG_false, BG_false_none, BA_some, BA_none, QA_noise, QA_noise_none, sigQ_nil, sigQ_snoc, ids1, apB, hits, hasN, Bool.true_or, Bool.false_or, Bool.or_true, Nat.zero_add, List.size_toArray, EQ_ret, EQ_normal, T_1, T_3, T_4, T_5, T_9, T_22, T_25, T_42, T_51, T_69, T_90, T_91, T_93, T_95, T_96, T_98, T_100, T_102, T_103, T_104, T_106, T_109, T_121, T_145, hc60, hc61]
    show _ = _
    kernel_rfl
  | true =>
  have hwl := whole_iff.1 hwb
  rw [hwb] at hc61
  simp only [Bool.true_eq_false, if_false]
  have hfa : ∀ n : S93, fits ⟨.struct [(0, 4), (1, 51), (2, 69), (3, 90), (4, 91)], 5, 104, .agg [.bool false, .nils, .nils, .nils, .nils]⟩ (.agg [.bool n.f0, .fz (n.f1.map k145.enc), .fz (n.f2.map Cd.str.enc), .fz (n.f3.map k100.enc), .fz (n.f4.map k121.enc)]) = true := fun n => rfl
  refine fn_rule (fn := fn16) rfl rfl (by simp [fn16]) ?_
  unfold fn16
  simp only [Try.f16, Option.getD_some, argEnv, List.map_nil, List.length_nil]
  simp only [W_skip, W_exit, W_ret, W_seq, SQ_normal, SQ_exit, SQ_ret, W_block, BQ_normal, BQ_exit, BQ_ret, W_cond, WC_bool, W_draw_q, WQ_nil, WQ_cons, WQ_guard, QG_true, QG_false, QA_quiet, Heap.pad, List.nil_append, List.cons_append, pickR, List.take_succ_cons, List.take_zero, List.take_nil, List.drop_zero, List.drop_succ_cons, binStr, Nat.reduceLeDiff, W_region, WO_nil, WO_cons, WO_move, WO_assign, WO_guard, WG_true, WG_false, WA_some, WA_none, LP_exit, LP_ret, aop, ev, evs, lk, ofConst, ofCell, Nat.beq, cond_true, cond_false, Bool.false_eq_true, if_false, if_true, bin, binInt, un, ok, Rd.run, Nat.reduceLT, true_and, Heap.puts, Heap.put, Heap.at?, decide_true, decide_false, yields, skipped, isSkip, indexAddrR, fieldAddrR, loadR, builtinR, lenB, lenKd, lenR, conv, partOf, TI.agg, List.length_map, List.length_cons, List.length_nil, List.getElem?_map, List.getElem?_cons_zero, List.getElem?_cons_succ, Option.map_some, Option.bind_some, Nat.reduceAdd, Nat.reduceEqDiff, beq_iff_eq, decide_eq_true_eq, Int.natCast_eq_zero, natOf_cast, FQ_ret, FQ_normal, resAll, resOne, oneOf, finish_plain, pl_int, pl_bool, pl_str, pl_fz, pl_agg, pl_tup, pl_clo, pl_undef, pl_nil, pl_cons, Bool.and_self, Bool.and_true, all_int, all_str, int_enc, str_enc, bool_enc, Int.ofNat_lt, boxR, allocR, storeR, overwrite, buildR, fillS, Option.isSome_some, V.cells, V.isCell, List.all_cons, List.all_nil, Bool.and_true, Bool.true_and, not_false_eq_true, and_true, and_self, V.anyIds, V.hasIds, Bool.or_false, Bool.not_false, Bool.or_self, buildSliceR, parts, fillR, List.replicate_succ, List.replicate_zero, List.set_cons_zero, rowIds, appendB, rows?, append_look, appL_some, append_none, List.map_nil, Bool.and_self, Nat.reduceMul, List.length_append, false_or, ne_eq, Nat.one_ne_zero, Nat.lt_add_one, or_self, extractR, max2, min2, List.getElem?_toArray, List.singleton_append, List.append_nil, Bool.and_false, Bool.false_and, eqV4, Bool.true_beq, Bool.false_beq, Bool.not_true, Bool.not_false, WB_nil, WB_cons, WB_guard, BG_true, BG_false, BG_false_none, BA_some, BA_none, QA_noise, QA_noise_none, sigQ_nil, sigQ_snoc, ids1, apB, hits, hasN, Bool.true_or, Bool.false_or, Bool.or_true, Nat.zero_add, List.size_toArray, EQ_ret, EQ_normal, T_1, T_3, T_4, T_5, T_9, T_22, T_25, T_42, T_51, T_69, T_90, T_91, T_93, T_95, T_96, T_98, T_100, T_102, T_103, T_104, T_106, T_109, T_121, T_145, hc60, hc61]
  refine loop_rule (ι := Nat) (S := fun i => ⟨[(0, .fz (l.map k95.enc)), (5, .ptr 0 0 0), (26, .fz (l.map k95.enc)), (27, .int .i64 l.length), (28, .int .i64 i)], [some fo0, some (fo1 false), some (fo2 (l.take i)), some (fo3 [])]⟩) (m := fun i => l.length + 1 - i)
    (I := fun i => i ≤ l.length) ?_ 0 _ (by simp) (by kernel_rfl)
  intro i hi
  by_cases hlt : i < l.length
  · have hx : l[i]? = some l[i] := List.getElem?_eq_getElem hlt
    have hs : setKey (.int .u32 l[i].f0) (.agg [.bool l[i].f1.f0, .fz (l[i].f1.f1.map k145.enc), .fz (l[i].f1.f2.map Cd.str.enc), .fz (l[i].f1.f3.map k100.enc), .fz (l[i].f1.f4.map k121.enc)]) ((l.take i).map encL) = some ((l.take (i + 1)).map encL) := by
      rw [List.take_succ_eq_append_getElem hlt, List.map_append]
      exact setKey_new (es := []) (f := fun x => .agg (k93.enc x.f1)) (rises_take hr hlt)
    simp only [W_skip, W_exit, W_ret, W_seq, SQ_normal, SQ_exit, SQ_ret, W_block, BQ_normal, BQ_exit, BQ_ret, W_cond, WC_bool, W_draw_q, WQ_nil, WQ_cons, WQ_guard, QG_true, QG_false, QA_quiet, Heap.pad, List.nil_append, List.cons_append, pickR, List.take_succ_cons, List.take_zero, List.take_nil, List.drop_zero, List.drop_succ_cons, binStr, Nat.reduceLeDiff, W_region, WO_nil, WO_cons, WO_move, WO_assign, WO_guard, WG_true, WG_false, WA_some, WA_none, LP_exit, LP_ret, aop, ev, evs, lk, ofConst, ofCell, Nat.beq, cond_true, cond_false, Bool.false_eq_true, if_false, if_true, bin, binInt, un, ok, Rd.run, Nat.reduceLT, true_and, Heap.puts, Heap.put, Heap.at?, decide_true, decide_false, yields, skipped, isSkip, indexAddrR, fieldAddrR, loadR, builtinR, lenB, lenKd, lenR, conv, partOf, TI.agg, List.length_map, List.length_cons, List.length_nil, List.getElem?_map, List.getElem?_cons_zero, List.getElem?_cons_succ, Option.map_some, Option.bind_some, Nat.reduceAdd, Nat.reduceEqDiff, beq_iff_eq, decide_eq_true_eq, Int.natCast_eq_zero, natOf_cast, FQ_ret, FQ_normal, resAll, resOne, oneOf, finish_plain, pl_int, pl_bool, pl_str, pl_fz, pl_agg, pl_tup, pl_clo, pl_undef, pl_nil, pl_cons, Bool.and_self, Bool.and_true, all_int, all_str, int_enc, str_enc, bool_enc, Int.ofNat_lt, boxR, allocR, storeR, overwrite, buildR, fillS, Option.isSome_some, V.cells, V.isCell, List.all_cons, List.all_nil, Bool.and_true, Bool.true_and, not_false_eq_true, and_true, and_self, V.anyIds, V.hasIds, Bool.or_false, Bool.not_false, Bool.or_self, buildSliceR, parts, fillR, List.replicate_succ, List.replicate_zero, List.set_cons_zero, rowIds, appendB, rows?, append_look, appL_some, append_none, List.map_nil, Bool.and_self, Nat.reduceMul, List.length_append, false_or, ne_eq, Nat.one_ne_zero, Nat.lt_add_one, or_self, extractR, max2, min2, List.getElem?_toArray, List.singleton_append, List.append_nil, Bool.and_false, Bool.false_and, eqV4, Bool.true_beq, Bool.false_beq, Bool.not_true, Bool.not_false, WB_nil, WB_cons, WB_guard, BG_true, BG_false, BG_false_none, BA_some, BA_none, QA_noise, QA_noise_none, sigQ_nil, sigQ_snoc, ids1, apB, hits, hasN, Bool.true_or, Bool.false_or, Bool.or_true, Nat.zero_add, List.size_toArray, EQ_ret, EQ_normal, T_1, T_3, T_4, T_5, T_9, T_22, T_25, T_42, T_51, T_69, T_90, T_91, T_93, T_95, T_96, T_98, T_100, T_102, T_103, T_104, T_106, T_109, T_121, T_145, all95, hlt, hx, k95_enc, fo0, fo1, fo2, fo3, List.map_cons, nilCheckR, mapUpdateR, hk, hfa, hs, wrap_i64s (show i < 1000000000000000000 by omega)]
    repeat (refine ⟨by kernel_rfl, ?_⟩)
    exact ⟨i + 1, by omega, by simp only; omega, by kernel_rfl⟩
  obtain rfl : i = l.length := by omega
  simp only [W_skip, W_exit, W_ret, W_seq, SQ_normal, SQ_exit, SQ_ret, W_block, BQ_normal, BQ_exit, BQ_ret, W_cond, WC_bool, W_draw_q, WQ_nil, WQ_cons, WQ_guard, QG_true, QG_false, QA_quiet, Heap.pad, List.nil_append, List.cons_append, pickR, List.take_succ_cons, List.take_zero, List.take_nil, List.drop_zero, List.drop_succ_cons, binStr, Nat.reduceLeDiff, W_region, WO_nil, WO_cons, WO_move, WO_assign, WO_guard, WG_true, WG_false, WA_some, WA_none, LP_exit, LP_ret, aop, ev, evs, lk, ofConst, ofCell, Nat.beq, cond_true, cond_false, Bool.false_eq_true, if_false, if_true, bin, binInt, un, ok, Rd.run, Nat.reduceLT, true_and, Heap.puts, Heap.put, Heap.at?, decide_true, decide_false, yields, skipped, isSkip, indexAddrR, fieldAddrR, loadR, builtinR, lenB, lenKd, lenR, conv, partOf, TI.agg, List.length_map, List.length_cons, List.length_nil, List.getElem?_map, List.getElem?_cons_zero, List.getElem?_cons_succ, Option.map_some, Option.bind_some, Nat.reduceAdd, Nat.reduceEqDiff, beq_iff_eq, decide_eq_true_eq, Int.natCast_eq_zero, natOf_cast, FQ_ret, FQ_normal, resAll, resOne, oneOf, finish_plain, pl_int, pl_bool, pl_str, pl_fz, pl_agg, pl_tup, pl_clo, pl_undef, pl_nil, pl_cons, Bool.and_self, Bool.and_true, all_int, all_str, int_enc, str_enc, bool_enc, Int.ofNat_lt, boxR, allocR, storeR, overwrite, buildR, fillS, Option.isSome_some, V.cells, V.isCell, List.all_cons, List.all_nil, Bool.and_true, Bool.true_and, not_false_eq_true, and_true, and_self, V.anyIds, V.hasIds, Bool.or_false, Bool.not_false, Bool.or_self, buildSliceR, parts, fillR, List.replicate_succ, List.replicate_zero, List.set_cons_zero, rowIds, appendB, rows?, append_look, appL_some, append_none, List.map_nil, Bool.and_self, Nat.reduceMul, List.length_append, false_or, ne_eq, Nat.one_ne_zero, Nat.lt_add_one, or_self, extractR, max2, min2, List.getElem?_toArray, List.singleton_append, List.append_nil, Bool.and_false, Bool.false_and, eqV4, Bool.true_beq, Bool.false_beq, Bool.not_true, Bool.not_false, WB_nil, WB_cons, WB_guard, BG_true, BG_false, BG_false_none, BA_some, BA_none, QA_noise, QA_noise_none, sigQ_nil, sigQ_snoc, ids1, apB, hits, hasN, Bool.true_or, Bool.false_or, Bool.or_true, Nat.zero_add, List.size_toArray, EQ_ret, EQ_normal, T_1, T_3, T_4, T_5, T_9, T_22, T_25, T_42, T_51, T_69, T_90, T_91, T_93, T_95, T_96, T_98, T_100, T_102, T_103, T_104, T_106, T_109, T_121, T_145, hlt]
  rw [List.take_of_length_le (Nat.le_refl _)]
  refine loop_rule (ι := Nat × List (Int × Int)) (S := fun p => ⟨[(0, .fz (l.map k95.enc)), (5, .ptr 0 0 0), (41, .fz (l.map k95.enc)), (42, .int .i64 l.length), (43, .int .i64 p.1)], [some fo0, some (fo1 false), some (fo2 l), some (fo3 p.2)]⟩) (m := fun p => l.length + 1 - p.1)
    (I := fun p => p.1 ≤ l.length ∧ (∀ c e, getI c p.2 = some e → Lim l c e ∧ e < 65535) ∧ ∀ x ∈ l.take p.1, ∃ d, getI x.f0 p.2 = some d) ?_ (0, []) _ ⟨by simp, by simp [getI], by simp⟩ (by kernel_rfl)
  clear hi hlt
  rintro ⟨i, m⟩ ⟨hi, hme, hall⟩
  simp only at hi hme hall
  by_cases hlt : i < l.length
  · have hx : l[i]? = some l[i] := List.getElem?_eq_getElem hlt
    obtain ⟨d, m', lost, hcall, hpost⟩ := lim62 l ⟨hl1, hln⟩ hr hwl h30 (unseen l m) l[i].f0 m ⟨_, List.getElem_mem hlt, rfl⟩ (Nat.le_refl _) (fun c e hc => .inr (hme c e hc))
    have hc := call62b hcall
    simp only [fo0, fo1, fo2, fo3] at hc
    rcases hpost with ⟨rfl, hd, hd6, hg2, hgd⟩ | ⟨rfl, hun⟩
    · simp only [W_skip, W_exit, W_ret, W_seq, SQ_normal, SQ_exit, SQ_ret, W_block, BQ_normal, BQ_exit, BQ_ret, W_cond, WC_bool, W_draw_q, WQ_nil, WQ_cons, WQ_guard, QG_true, QG_false, QA_quiet, Heap.pad, List.nil_append, List.cons_append, pickR, List.take_succ_cons, List.take_zero, List.take_nil, List.drop_zero, List.drop_succ_cons, binStr, Nat.reduceLeDiff, W_region, WO_nil, WO_cons, WO_move, WO_assign, WO_guard, WG_true, WG_false, WA_some, WA_none, LP_exit, LP_ret, aop, ev, evs, lk, ofConst, ofCell, Nat.beq, cond_true, cond_false, Bool.false_eq_true, if_false, if_true, bin, binInt, un, ok, Rd.run, Nat.reduceLT, true_and, Heap.puts, Heap.put, Heap.at?, decide_true, decide_false, yields, skipped, isSkip, indexAddrR, fieldAddrR, loadR, builtinR, lenB, lenKd, lenR, conv, partOf, TI.agg, List.length_map, List.length_cons, List.length_nil, List.getElem?_map, List.getElem?_cons_zero, List.getElem?_cons_succ, Option.map_some, Option.bind_some, Nat.reduceAdd, Nat.reduceEqDiff, beq_iff_eq, decide_eq_true_eq, Int.natCast_eq_zero, natOf_cast, FQ_ret, FQ_normal, resAll, resOne, oneOf, finish_plain, pl_int, pl_bool, pl_str, pl_fz, pl_agg, pl_tup, pl_clo, pl_undef, pl_nil, pl_cons, Bool.and_self, Bool.and_true, all_int, all_str, int_enc, str_enc, bool_enc, Int.ofNat_lt, boxR, allocR, storeR, overwrite, buildR, fillS, Option.isSome_some, V.cells, V.isCell, List.all_cons, List.all_nil, Bool.and_true, Bool.true_and, not_false_eq_true, and_true, and_self, V.anyIds, V.hasIds, Bool.or_false, Bool.not_false, Bool.or_self, buildSliceR, parts, fillR, List.replicate_succ, List.replicate_zero, List.set_cons_zero, rowIds, appendB, rows?, append_look, appL_some, append_none, List.map_nil, Bool.and_self, Nat.reduceMul, List.length_append, false_or, ne_eq, Nat.one_ne_zero, Nat.lt_add_one, or_self, extractR, max2, min2, List.getElem?_toArray, List.singleton_append, List.append_nil, Bool.and_false, Bool.false_and, eqV4, Bool.true_beq, Bool.false_beq, Bool.not_true, Bool.not_false, WB_nil, WB_cons, WB_guard, BG_true, BG_false, BG_false_none, BA_some, BA_none, QA_noise, QA_noise_none, sigQ_nil, sigQ_snoc, ids1, apB, hits, hasN, Bool.true_or, Bool.false_or, Bool.or_true, Nat.zero_add, List.size_toArray, EQ_ret, EQ_normal, T_1, T_3, T_4, T_5, T_9, T_22, T_25, T_42, T_51, T_69, T_90, T_91, T_93, T_95, T_96, T_98, T_100, T_102, T_103, T_104, T_106, T_109, T_121, T_145, all95, hlt, hx, k95_enc, fo0, fo1, fo2, fo3, nilCheckR, hc, Nat.reduceLeDiff, wrap_i64s (show i < 1000000000000000000 by omega)]
      refine ⟨(i + 1, m'), ⟨by simp only; omega, fun c e hce => ?_, fun x hx => ?_⟩, by simp only; omega, by kernel_rfl⟩
      · rcases hg2.2.1 c e hce with ⟨rfl, h0⟩ | h1
        · have := lim_pos (hme c 0 h0).1
          omega
        · exact h1
      · simp only [List.take_succ_eq_append_getElem hlt, List.mem_append, List.mem_singleton] at hx
        rcases hx with hx | rfl
        · obtain ⟨e, he⟩ := hall x hx
          have := hg2.2.2 x.f0 (by rw [he]; rfl)
          exact Option.isSome_iff_exists.1 this
        · exact ⟨d, hgd⟩
    · rw [if_neg hun]
      simp only [W_skip, W_exit, W_ret, W_seq, SQ_normal, SQ_exit, SQ_ret, W_block, BQ_normal, BQ_exit, BQ_ret, W_cond, WC_bool, W_draw_q, WQ_nil, WQ_cons, WQ_guard, QG_true, QG_false, QA_quiet, Heap.pad, List.nil_append, List.cons_append, pickR, List.take_succ_cons, List.take_zero, List.take_nil, List.drop_zero, List.drop_succ_cons, binStr, Nat.reduceLeDiff, W_region, WO_nil, WO_cons, WO_move, WO_assign, WO_guard, WG_true, WG_false, WA_some, WA_none, LP_exit, LP_ret, aop, ev, evs, lk, ofConst, ofCell, Nat.beq, cond_true, cond_false, Bool.false_eq_true, if_false, if_true, bin, binInt, un, ok, Rd.run, Nat.reduceLT, true_and, Heap.puts, Heap.put, Heap.at?, decide_true, decide_false, yields, skipped, isSkip, indexAddrR, fieldAddrR, loadR, builtinR, lenB, lenKd, lenR, conv, partOf, TI.agg, List.length_map, List.length_cons, List.length_nil, List.getElem?_map, List.getElem?_cons_zero, List.getElem?_cons_succ, Option.map_some, Option.bind_some, Nat.reduceAdd, Nat.reduceEqDiff, beq_iff_eq, decide_eq_true_eq, Int.natCast_eq_zero, natOf_cast, FQ_ret, FQ_normal, resAll, resOne, oneOf, finish_plain, pl_int, pl_bool, pl_str, pl_fz, pl_agg, pl_tup, pl_clo, pl_undef, pl_nil, pl_cons, Bool.and_self, Bool.and_true, all_int, all_str, int_enc, str_enc, bool_enc, Int.ofNat_lt, boxR, allocR, storeR, overwrite, buildR, fillS, Option.isSome_some, V.cells, V.isCell, List.all_cons, List.all_nil, Bool.and_true, Bool.true_and, not_false_eq_true, and_true, and_self, V.anyIds, V.hasIds, Bool.or_false, Bool.not_false, Bool.or_self, buildSliceR, parts, fillR, List.replicate_succ, List.replicate_zero, List.set_cons_zero, rowIds, appendB, rows?, append_look, appL_some, append_none, List.map_nil, Bool.and_self, Nat.reduceMul, List.length_append, false_or, ne_eq, Nat.one_ne_zero, Nat.lt_add_one, or_self, extractR, max2, min2, List.getElem?_toArray, List.singleton_append, List.append_nil, Bool.and_false, Bool.false_and, eqV4, Bool.true_beq, Bool.false_beq, Bool.not_true, Bool.not_false, WB_nil, WB_cons, WB_guard, BG_true, BG_false, BG_false_none, BA_some, BA_none, QA_noise, QA_noise_none, sigQ_nil, sigQ_snoc, ids1, apB, hits, hasN, Bool.true_or, Bool.false_or, Bool.or_true, Nat.zero_add, List.size_toArray, EQ_ret, EQ_normal, T_1, T_3, T_4, T_5, T_9, T_22, T_25, T_42, T_51, T_69, T_90, T_91, T_93, T_95, T_96, T_98, T_100, T_102, T_103, T_104, T_106, T_109, T_121, T_145, all95, hlt, hx, k95_enc, fo0, fo1, fo2, fo3, nilCheckR, hc, Nat.reduceLeDiff]
      show _ = _
      kernel_rfl
  obtain rfl : i = l.length := by omega
  rw [List.take_of_length_le (Nat.le_refl _)] at hall
  have hst : Stable l l.length := stable_of_lim hr hwl fun x hx => by
    obtain ⟨d, hd⟩ := hall x hx
    exact ⟨d, (hme _ _ hd).1⟩
  have hdp : ∀ x ∈ l, withN (deepI m) x.f1 = withN (dp l) x.f1 := fun x hx => withN_congr fun b hb => by
    obtain ⟨y, hy, rfl⟩ := hwl x hx b hb
    obtain ⟨d, hd⟩ := hall y hy
    have := lim_uniq (hme _ _ hd).1 (lim_of_stable hwl hst hy)
    unfold deepI dp
    rw [hd, ← this]
    rfl
  rw [if_pos hst]
  simp only [W_skip, W_exit, W_ret, W_seq, SQ_normal, SQ_exit, SQ_ret, W_block, BQ_normal, BQ_exit, BQ_ret, W_cond, WC_bool, W_draw_q, WQ_nil, WQ_cons, WQ_guard, QG_true, QG_false, QA_quiet, Heap.pad, List.nil_append, List.cons_append, pickR, List.take_succ_cons, List.take_zero, List.take_nil, List.drop_zero, List.drop_succ_cons, binStr, Nat.reduceLeDiff, W_region, WO_nil, WO_cons, WO_move, WO_assign, WO_guard, WG_true, WG_false, WA_some, WA_none, LP_exit, LP_ret, aop, ev, evs, lk, ofConst, ofCell, Nat.beq, cond_true, cond_false, Bool.false_eq_true, if_false, if_true, bin, binInt, un, ok, Rd.run, Nat.reduceLT, true_and, Heap.puts, Heap.put, Heap.at?, decide_true, decide_false, yields, skipped, isSkip, indexAddrR, fieldAddrR, loadR, builtinR, lenB, lenKd, lenR, conv, partOf, TI.agg, List.length_map, List.length_cons, List.length_nil, List.getElem?_map, List.getElem?_cons_zero, List.getElem?_cons_succ, Option.map_some, Option.bind_some, Nat.reduceAdd, Nat.reduceEqDiff, beq_iff_eq, decide_eq_true_eq, Int.natCast_eq_zero, natOf_cast, FQ_ret, FQ_normal, resAll, resOne, oneOf, finish_plain, pl_int, pl_bool, pl_str, pl_fz, pl_agg, pl_tup, pl_clo, pl_undef, pl_nil, pl_cons, Bool.and_self, Bool.and_true, all_int, all_str, int_enc, str_enc, bool_enc, Int.ofNat_lt, boxR, allocR, storeR, overwrite, buildR, fillS, Option.isSome_some, V.cells, V.isCell, List.all_cons, List.all_nil, Bool.and_true, Bool.true_and, not_false_eq_true, and_true, and_self, V.anyIds, V.hasIds, Bool.or_false, Bool.not_false, Bool.or_self, buildSliceR, parts, fillR, List.replicate_succ, List.replicate_zero, List.set_cons_zero, rowIds, appendB, rows?, append_look, appL_some, append_none, List.map_nil, Bool.and_self, Nat.reduceMul, List.length_append, false_or, ne_eq, Nat.one_ne_zero, Nat.lt_add_one, or_self, extractR, max2, min2, List.getElem?_toArray, List.singleton_append, List.append_nil, Bool.and_false, Bool.false_and, eqV4, Bool.true_beq, Bool.false_beq, Bool.not_true, Bool.not_false, WB_nil, WB_cons, WB_guard, BG_true, BG_false, BG_false_none, BA_some, BA_none, QA_noise, QA_noise_none, sigQ_nil, sigQ_snoc, ids1, apB, hits, hasN, Bool.true_or, Bool.false_or, Bool.or_true, Nat.zero_add, List.size_toArray, EQ_ret, EQ_normal, T_1, T_3, T_4, T_5, T_9, T_22, T_25, T_42, T_51, T_69, T_90, T_91, T_93, T_95, T_96, T_98, T_100, T_102, T_103, T_104, T_106, T_109, T_121, T_145, hlt]
  refine loop_rule (ι := Nat) (S := fun i => ⟨[(5, .ptr 0 0 0), (10, .ms 1 6 0 i none), (56, .fz (l.map k95.enc)), (57, .int .i64 l.length), (58, .int .i64 i)], [some go0, some (.buf 6 (((l.take i).map (fixI l)).map k95.enc) false true), some go2, some (fo2 l), some (fo3 m)]⟩) (m := fun i => l.length + 1 - i)
    (I := fun i => i ≤ l.length) ?_ 0 _ (by simp) (by kernel_rfl)
  clear hi hlt
  intro i hi
  by_cases hlt : i < l.length
  · have hx : l[i]? = some l[i] := List.getElem?_eq_getElem hlt
    have hn := hln l[i] (List.getElem_mem hlt)
    have hc := fun n hn' o rest => call63b l[i].f1 l m hn n hn' o rest
    rw [hdp _ (List.getElem_mem hlt)] at hc
    simp only [k93_enc] at hc
    have htl : (l.take i).length = i := by simp; omega
    simp only [W_skip, W_exit, W_ret, W_seq, SQ_normal, SQ_exit, SQ_ret, W_block, BQ_normal, BQ_exit, BQ_ret, W_cond, WC_bool, W_draw_q, WQ_nil, WQ_cons, WQ_guard, QG_true, QG_false, QA_quiet, Heap.pad, List.nil_append, List.cons_append, pickR, List.take_succ_cons, List.take_zero, List.take_nil, List.drop_zero, List.drop_succ_cons, binStr, Nat.reduceLeDiff, W_region, WO_nil, WO_cons, WO_move, WO_assign, WO_guard, WG_true, WG_false, WA_some, WA_none, LP_exit, LP_ret, aop, ev, evs, lk, ofConst, ofCell, Nat.beq, cond_true, cond_false, Bool.false_eq_true, if_false, if_true, bin, binInt, un, ok, Rd.run, Nat.reduceLT, true_and, Heap.puts, Heap.put, Heap.at?, decide_true, decide_false, yields, skipped, isSkip, indexAddrR, fieldAddrR, loadR, builtinR, lenB, lenKd, lenR, conv, partOf, TI.agg, List.length_map, List.length_cons, List.length_nil, List.getElem?_map, List.getElem?_cons_zero, List.getElem?_cons_succ, Option.map_some, Option.bind_some, Nat.reduceAdd, Nat.reduceEqDiff, beq_iff_eq, decide_eq_true_eq, Int.natCast_eq_zero, natOf_cast, FQ_ret, FQ_normal, resAll, resOne, oneOf, finish_plain, pl_int, pl_bool, pl_str, pl_fz, pl_agg, pl_tup, pl_clo, pl_undef, pl_nil, pl_cons, Bool.and_self, Bool.and_true, all_int, all_str, int_enc, str_enc, bool_enc, Int.ofNat_lt, boxR, allocR, storeR, overwrite, buildR, fillS, Option.isSome_some, V.cells, V.isCell, List.all_cons, List.all_nil, Bool.and_true, Bool.true_and, not_false_eq_true, and_true, and_self, V.anyIds, V.hasIds, Bool.or_false, Bool.not_false, Bool.or_self, buildSliceR, parts, fillR, List.replicate_succ, List.replicate_zero, List.set_cons_zero, rowIds, appendB, rows?, append_look, appL_some, append_none, List.map_nil, Bool.and_self, Nat.reduceMul, List.length_append, false_or, ne_eq, Nat.one_ne_zero, Nat.lt_add_one, or_self, extractR, max2, min2, List.getElem?_toArray, List.singleton_append, List.append_nil, Bool.and_false, Bool.false_and, eqV4, Bool.true_beq, Bool.false_beq, Bool.not_true, Bool.not_false, WB_nil, WB_cons, WB_guard, BG_true, BG_false, BG_false_none, BA_some, BA_none, QA_noise, QA_noise_none, sigQ_nil, sigQ_snoc, ids1, apB, hits, hasN, Bool.true_or, Bool.false_or, Bool.or_true, Nat.zero_add, List.size_toArray, EQ_ret, EQ_normal, T_1, T_3, T_4, T_5, T_9, T_22, T_25, T_42, T_51, T_69, T_90, T_91, T_93, T_95, T_96, T_98, T_100, T_102, T_103, T_104, T_106, T_109, T_121, T_145, all95, hlt, hx, k95_enc, hc, Nat.reduceLeDiff, htl, wrap_i64s (show i < 1000000000000000000 by omega), show (i + 1) * 112 ≤ 140737488355328 by omega, show i + 1 ≤ 140737488355328 by omega]
    refine ⟨i + 1, by omega, by simp only; omega, ?_⟩
    have e : ((l.take i).map (fixI l)).map k95.enc ++ [[.int .u32 l[i].f0, .bool (withN (dp l) l[i].f1).f0, .fz ((withN (dp l) l[i].f1).f1.map k145.enc), .fz ((withN (dp l) l[i].f1).f2.map Cd.str.enc), .fz ((withN (dp l) l[i].f1).f3.map k100.enc), .fz ((withN (dp l) l[i].f1).f4.map k121.enc)]] =
        ((l.take (i + 1)).map (fixI l)).map k95.enc := by
      rw [List.take_succ_eq_append_getElem hlt, List.map_append, List.map_append]
      rfl
    rw [e]
    show _ = _
    kernel_rfl
  obtain rfl : i = l.length := by omega
  simp only [W_skip, W_exit, W_ret, W_seq, SQ_normal, SQ_exit, SQ_ret, W_block, BQ_normal, BQ_exit, BQ_ret, W_cond, WC_bool, W_draw_q, WQ_nil, WQ_cons, WQ_guard, QG_true, QG_false, QA_quiet, Heap.pad, List.nil_append, List.cons_append, pickR, List.take_succ_cons, List.take_zero, List.take_nil, List.drop_zero, List.drop_succ_cons, binStr, Nat.reduceLeDiff, W_region, WO_nil, WO_cons, WO_move, WO_assign, WO_guard, WG_true, WG_false, WA_some, WA_none, LP_exit, LP_ret, aop, ev, evs, lk, ofConst, ofCell, Nat.beq, cond_true, cond_false, Bool.false_eq_true, if_false, if_true, bin, binInt, un, ok, Rd.run, Nat.reduceLT, true_and, Heap.puts, Heap.put, Heap.at?, decide_true, decide_false, yields, skipped, isSkip, indexAddrR, fieldAddrR, loadR, builtinR, lenB, lenKd, lenR, conv, partOf, TI.agg, List.length_map, List.length_cons, List.length_nil, List.getElem?_map, List.getElem?_cons_zero, List.getElem?_cons_succ, Option.map_some, Option.bind_some, Nat.reduceAdd, Nat.reduceEqDiff, beq_iff_eq, decide_eq_true_eq, Int.natCast_eq_zero, natOf_cast, FQ_ret, FQ_normal, resAll, resOne, oneOf, finish_plain, pl_int, pl_bool, pl_str, pl_fz, pl_agg, pl_tup, pl_clo, pl_undef, pl_nil, pl_cons, Bool.and_self, Bool.and_true, all_int, all_str, int_enc, str_enc, bool_enc, Int.ofNat_lt, boxR, allocR, storeR, overwrite, buildR, fillS, Option.isSome_some, V.cells, V.isCell, List.all_cons, List.all_nil, Bool.and_true, Bool.true_and, not_false_eq_true, and_true, and_self, V.anyIds, V.hasIds, Bool.or_false, Bool.not_false, Bool.or_self, buildSliceR, parts, fillR, List.replicate_succ, List.replicate_zero, List.set_cons_zero, rowIds, appendB, rows?, append_look, appL_some, append_none, List.map_nil, Bool.and_self, Nat.reduceMul, List.length_append, false_or, ne_eq, Nat.one_ne_zero, Nat.lt_add_one, or_self, extractR, max2, min2, List.getElem?_toArray, List.singleton_append, List.append_nil, Bool.and_false, Bool.false_and, eqV4, Bool.true_beq, Bool.false_beq, Bool.not_true, Bool.not_false, WB_nil, WB_cons, WB_guard, BG_true, BG_false, BG_false_none, BA_some, BA_none, QA_noise, QA_noise_none, sigQ_nil, sigQ_snoc, ids1, apB, hits, hasN, Bool.true_or, Bool.false_or, Bool.or_true, Nat.zero_add, List.size_toArray, EQ_ret, EQ_normal, T_1, T_3, T_4, T_5, T_9, T_22, T_25, T_42, T_51, T_69, T_90, T_91, T_93, T_95, T_96, T_98, T_100, T_102, T_103, T_104, T_106, T_109, T_121, T_145, hlt]
  rw [List.take_of_length_le (Nat.le_refl _)]
  refine finish_fk ?_
  simp only [frz, frzAll, frzG, frzGAll, ms2, msUp, Rd.run, Heap.at?, List.length_map, Nat.zero_add, Nat.le_refl, and_self, if_true, List.drop_zero, take_map2, FK, List.cons_append, List.nil_append, fixed]
  show _ = _
  kernel_rfl
theorem call16 (l : List S95) (hl : fewL l) (h30 : l.length ≤ 30) (hw : wfL l) (k : Nat) : callV (LX T fns) k (.clo 16 []) [.fz (l.map k95.enc)] = .pure (.tup [.fz ((fixP l).1.map k95.enc), .int .i64 (fixP l).2], []) := callV_plain (fn := fn16) rfl rfl rfl (lim16 l hl h30 hw) k
end Go.Proofs.Ytfdemnefkfkghaa.R
