/- Parts of the proof of YtfdemnefkfkghaaRAuditCountsAll, one behind the other: R27r, RAuditCountsLaw, RAuditCountsAll. -/
import Derived.Test.YtfdemnefkfkghaaAC0
import Derived.Test.YtfdemnefkfkghaaAC1
import Derived.Test.YtfdemnefkfkghaaAC2
import Derived.Test.YtfdemnefkfkghaaAC3
import Derived.Test.YtfdemnefkfkghaaAC4
/- Chapter 27's laws: AuditCounts. -/
namespace Go.Proofs.Ytfdemnefkfkghaa.R
open Go Go.Proofs
set_option linter.unusedSimpArgs false
set_option linter.unusedVariables false
set_option maxRecDepth 10000
set_option maxHeartbeats 4000000
theorem eq87 {a b c d e f g h : Int} : eqV T 87 (.agg [.int .i64 a, .int .i64 b, .int .i64 c, .int .i64 d, .int .i64 e, .int .i64 f, .int .i64 g, .int .i64 h]) (.agg [.int .i64 a, .int .i64 b, .int .i64 c, .int .i64 d, .int .i64 e, .int .i64 f, .int .i64 g, .int .i64 h]) = some true := by
  simp [eqV, T_87, T_3, eqAgg, eqKind]
theorem great_few {n : S93} (h : greatNode n = false) : n.f1.length ≤ 60 ∧ n.f4.length ≤ 60 ∧ n.f3.length ≤ 60 := by
  unfold greatNode greatMsgs greatPairs at h
  simp only [Bool.or_eq_false_iff, decide_eq_false_iff_not] at h
  omega
theorem lim13 (l : List S95) (m : S80) (hl : g22 l) (hm : g80 m) : lim T fns 13 [.fz (l.map k95.enc), .agg (k80.enc m)] [] = some (.bool true, []) := by
  have c50 := call50 l m
  cases hg : (greatL l || greatM m) with
  | true =>
    rw [hg] at c50
    simp only [k80_enc] at c50 ⊢
    refine fn_rule (fn := fn13) rfl rfl (by simp [fn13]) ?_
    unfold fn13
    simp only [Try.f13, Option.getD_some, argEnv, List.map_nil, List.length_nil]
    simp only [go_sem, T_3, T_4, T_5, T_9, T_22, T_42, T_51, T_69, T_76, T_77, T_78, T_80, T_87, T_90, T_91, T_93, T_95, T_96, T_98, T_100, T_121, T_145, T_179, T_184, c50, call51]
  | false =>
  rw [hg] at c50
  simp only [Bool.or_eq_false_iff] at hg
  obtain ⟨fl, l30⟩ := few_of_great hg.1
  have hgl := hg.1
  have hgm := hg.2
  unfold greatL at hgl
  simp only [Bool.or_eq_false_iff, decide_eq_false_iff_not, List.any_eq_false] at hgl
  have hnode : ∀ x ∈ l, greatNode x.f1 = false := fun x hx => by simpa using hgl.2 x hx
  have hit := items_few (l := l) hnode
  unfold greatM greatV at hgm
  simp only [Bool.or_eq_false_iff, decide_eq_false_iff_not] at hgm
  have hb := blocks_of hl
  have hv : ∀ v ∈ m.f2, u32B v.f1 := fun v hv => u32_of (hm.2.2.2 v hv).2.1
  have hdv : ∀ v ∈ m.f2, 0 ≤ v.f2 ∧ v.f2 ≤ 65535 := fun v hv => u16_of (hm.2.2.2 v hv).2.2
  have hp : ∀ x ∈ m.f1, u32B x.f0 ∧ u32B x.f1 := fun x hx => ⟨u32_of (hm.2.1.2 x hx).1, u32_of (hm.2.1.2 x hx).2⟩
  have h2 : ∀ x ∈ nmRoots m.f2 ++ nmItems l ++ nmPend m.f1, u32B x.1 ∧ u32B x.2 := fun x hx => by
    simp only [List.mem_append] at hx
    rcases hx with (hx | hx) | hx
    · obtain ⟨v, hv2, rfl⟩ := List.mem_map.1 hx
      exact ⟨hv v hv2, one_b⟩
    · exact ⟨hb.2 x hx, itemsB l x hx⟩
    · obtain ⟨y, hy, rfl⟩ := List.mem_map.1 hx
      exact hp y hy
  have hc : refsU (addsU (nmRoots m.f2 ++ nmItems l ++ nmPend m.f1) ([], [])) = addsR (nmRoots m.f2 ++ nmItems l ++ nmPend m.f1) [] :=
    counts_eq (fun x hx => (h2 x hx).2) ⟨rfl, rfl, by simp⟩ rfl (by simp) fun b => by simp [lookI, nameR]
  have h126 := lim126 l m.f2 m.f1 fl (by omega) (by omega) (by omega) fun x hx => (hp x hx).2
  have h117 := lim117 l m.f2 m.f1 fl (by omega) (by omega) (by omega) fun x hx => (hp x hx).2
  rw [hc] at h126
  have hrl := addsR_len (l := nmRoots m.f2 ++ nmItems l ++ nmPend m.f1) (acc := [])
  have hrl2 : (nmRoots m.f2 ++ nmItems l ++ nmPend m.f1).length = m.f2.length + (nmItems l).length + m.f1.length := by simp [nmRoots, nmPend, Nat.add_assoc]
  rw [hrl2] at hrl
  simp only [List.length_nil] at hrl
  generalize addsR (nmRoots m.f2 ++ nmItems l ++ nmPend m.f1) [] = refs at *
  obtain ⟨q, hq, hqm, hql⟩ := reached_is l (m.f2.map (·.f1))
  obtain ⟨all, ha, ham, hal⟩ := reached_is [] (blocks l)
  have ham2 : ∀ b, b ∈ all ↔ b ∈ blocks l := fun b => by rw [ham, rch_nil]
  have hbl : (blocks l).length = l.length := by simp [blocks]
  rw [List.length_map] at hql
  rw [hbl] at hal
  have hal2 : (nmItems []).length = 0 := rfl
  have hT : ∀ b, (tgts l b).length ≤ 120 := fun b => by
    unfold tgts
    cases hf : find b l with
    | none => simp [noNode, targets, gotos]
    | some n =>
      obtain ⟨x, hx, _, e⟩ := find_mem hf
      have := targets_few (hnode x hx)
      unfold nmNode at this
      rw [List.length_map] at this
      rw [Option.getD_some, ← e]
      exact this
  have h55 := lim55 l m q 120 fl hT (by omega) (by omega) (by omega) hq hqm (by omega)
  have h56 := lim56 l m q all fl (by omega) (by omega) hq hqm (fun b => Nat.lt_of_le_of_lt (hT b) (by omega)) (by omega) ha ham2 (by omega)
  rw [garbage_eq (live := q) ha ham2] at h55
  have hgl2 := notIn_len (live := q) (l := all)
  generalize notIn q all = G at *
  have hk : ∀ x ∈ l, pairN x ≤ 1000 ∧ msgN x ≤ 1000 ∧ x.f1.f3.length ≤ 1000 := fun x hx => by
    have := great_few (hnode x hx)
    unfold pairN msgN
    omega
  have h57 := lim57 l m G refs fl (by omega) (fun x hx => ⟨(hk x hx).1, (hk x hx).2.1⟩) (by omega) hdv (by omega) h55 h126
  have h58 := lim58 l m G refs fl (by omega) hk (by omega) hdv (by omega) h56 h117
  have h54 := lim54 G (by omega)
  have c54 := fun n => callV_plain (T := T) (fns := fns) (g := 54) (fn := fn54) rfl (args := [.fz (G.map (Cd.int .u32).enc), .fz (G.map (Cd.int .u32).enc)]) (caps := []) rfl rfl h54 n
  have c55 := fun n => callV_plain (T := T) (fns := fns) (g := 55) (fn := fn55) rfl (args := [.fz (l.map k95.enc), .agg (k80.enc m)]) (caps := []) rfl rfl h55 n
  have c56 := fun n => callV_plain (T := T) (fns := fns) (g := 56) (fn := fn56) rfl (args := [.fz (l.map k95.enc), .agg (k80.enc m)]) (caps := []) rfl rfl h56 n
  have c57 := fun n => callV_plain (T := T) (fns := fns) (g := 57) (fn := fn57) rfl (args := [.fz (l.map k95.enc), .agg (k80.enc m)]) (caps := []) rfl rfl h57 n
  have c58 := fun n => callV_plain (T := T) (fns := fns) (g := 58) (fn := fn58) rfl (args := [.fz (l.map k95.enc), .agg (k80.enc m)]) (caps := []) rfl rfl h58 n
  unfold cntC at c57 c58
  simp only [k80_enc] at c50 c55 c56 c57 c58 ⊢
  refine fn_rule (fn := fn13) rfl rfl (by simp [fn13]) ?_
  unfold fn13
  simp only [Try.f13, Option.getD_some, argEnv, List.map_nil, List.length_nil]
  simp only [go_sem, T_3, T_4, T_5, T_9, T_22, T_42, T_51, T_69, T_76, T_77, T_78, T_80, T_87, T_90, T_91, T_93, T_95, T_96, T_98, T_100, T_121, T_145, T_179, T_184, c50, call51, c54, c55, c56, c57, c58, eq87]

end Go.Proofs.Ytfdemnefkfkghaa.R
/- The law AuditCounts, for every argument. -/
namespace Go.Proofs.Ytfdemnefkfkghaa.R
open Go Go.Proofs
set_option linter.unusedVariables false
theorem law13 (x0 : (List S95)) (gx0 : g22 x0) (x1 : S80) (gx1 : g80 x1) : ∃ R d h, acall T fns R d 13 [.fz (x0.map k95.enc), .agg (k80.enc x1)] [] = some (.bool true, h) := by
  obtain ⟨R, d, h⟩ := lim_acall (lim13 x0 x1 gx0 gx1)
  exact ⟨R, d, _, h⟩
end Go.Proofs.Ytfdemnefkfkghaa.R
/- AuditCounts and what its row needs, together. -/
