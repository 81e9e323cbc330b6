/- Parts of the proof of YtfdemnefkfkghaaRAuditCountsAll, one behind the other: R33o, R33p, RFz, R27a, R27b, Q27, R27c, RSa, RSb, RSc, RSd, RSe, RSf, RSg, RSh, RSi, RSj, RSk, RSl, Q27d, RSm, R27d. -/
import Derived.Test.YtfdemnefkfkghaaAC0
import Derived.Test.YtfdemnefkfkghaaAC1
import Derived.Test.YtfdemnefkfkghaaAC2
import Derived.Sort.AssemblyPlain
import Derived.Sort.LotD5
/- Chapter 33's law: may a node be? (the document's) -/
namespace Go.Proofs.Ytfdemnefkfkghaa.R
open Go Go.Proofs
set_option linter.unusedSimpArgs false
set_option linter.unusedVariables false
set_option maxRecDepth 10000
set_option maxHeartbeats 4000000

def longPair (p : S145) : Bool := decide ((p.f0.size : Int) > 16) || decide ((p.f1.size : Int) > 32)
def badKid (e : S100) : Bool := decide (e.f1 < 1) || (decide ((e.f2.f0.size : Int) > 16) || decide ((e.f2.f1.size : Int) > 16))
def badPiv (p : ByteArray) : Bool := decide (p = ⟨#[]⟩) || decide ((p.size : Int) > 16)
/-- Are pivots wrong? -/
def pivBad : Option ByteArray → List ByteArray → Bool
  | _, [] => false
  | none, p :: r => badPiv p || pivBad (some p) r
  | some q, p :: r => badPiv p || (leS p q || pivBad (some p) r)
def mayN (n : S93) : Int :=
  if (decide ((n.f1.length : Int) > 16) || (decide ((n.f3.length : Int) > 8) || decide ((n.f4.length : Int) > 16))) = true then 13 else
  if n.f0 = true then
    (if (decide ((n.f2.length : Int) > 0) || (decide ((n.f3.length : Int) > 0) || (decide ((n.f4.length : Int) > 0) || !riseFrom n.f1))) = true then 3 else if n.f1.any longPair = true then 3 else 0)
  else if (decide ((n.f1.length : Int) > 0) || (decide ((n.f3.length : Int) < 1) || ((n.f2.length : Int) + 1 != (n.f3.length : Int)))) = true then 3 else
    if n.f3.any badKid = true then 3 else if pivBad none n.f2 = true then 3 else if n.f4.any (fun m => !mayMsg m) = true then 3 else 0

theorem lim65 (n : S93) (hn : fewN n) : lim T fns 65 [.agg (k93.enc n)] [] = some (.int .i64 (mayN n), []) := by
  obtain ⟨h1, h2, h3, h4⟩ := hn
  cases g1 : decide ((n.f1.length : Int) > 16) with
  | true =>
    refine fn_rule (fn := fn65) rfl rfl (by simp [fn65]) ?_
    unfold fn65
    simp only [Try.f65, Option.getD_some, argEnv, List.map_nil, List.length_nil]
    simp only [go_sem, T_3, T_4, T_5, T_9, T_42, T_51, T_69, T_90, T_91, T_93, T_96, T_98, T_100, T_121, T_145, k93_enc, g1]
    simp [mayN, g1]
  | false =>
  cases g2 : decide ((n.f3.length : Int) > 8) with
  | true =>
    refine fn_rule (fn := fn65) rfl rfl (by simp [fn65]) ?_
    unfold fn65
    simp only [Try.f65, Option.getD_some, argEnv, List.map_nil, List.length_nil]
    simp only [go_sem, T_3, T_4, T_5, T_9, T_42, T_51, T_69, T_90, T_91, T_93, T_96, T_98, T_100, T_121, T_145, k93_enc, g1, g2]
    simp [mayN, g1, g2]
  | false =>
  cases g3 : decide ((n.f4.length : Int) > 16) with
  | true =>
    refine fn_rule (fn := fn65) rfl rfl (by simp [fn65]) ?_
    unfold fn65
    simp only [Try.f65, Option.getD_some, argEnv, List.map_nil, List.length_nil]
    simp only [go_sem, T_3, T_4, T_5, T_9, T_42, T_51, T_69, T_90, T_91, T_93, T_96, T_98, T_100, T_121, T_145, k93_enc, g1, g2, g3]
    simp [mayN, g1, g2, g3]
  | false =>
  have e0 : mayN n = if n.f0 = true then
      (if (decide ((n.f2.length : Int) > 0) || (decide ((n.f3.length : Int) > 0) || (decide ((n.f4.length : Int) > 0) || !riseFrom n.f1))) = true then 3 else if n.f1.any longPair = true then 3 else 0)
    else if (decide ((n.f1.length : Int) > 0) || (decide ((n.f3.length : Int) < 1) || ((n.f2.length : Int) + 1 != (n.f3.length : Int)))) = true then 3 else
      if n.f3.any badKid = true then 3 else if pivBad none n.f2 = true then 3 else if n.f4.any (fun m => !mayMsg m) = true then 3 else 0 := by
    unfold mayN
    rw [g1, g2, g3]
    rfl
  rw [e0]
  cases h0 : n.f0 with
  | true =>
    simp only [if_true]
    cases g4 : decide ((n.f2.length : Int) > 0) with
    | true =>
      refine fn_rule (fn := fn65) rfl rfl (by simp [fn65]) ?_
      unfold fn65
      simp only [Try.f65, Option.getD_some, argEnv, List.map_nil, List.length_nil]
      simp only [go_sem, T_3, T_4, T_5, T_9, T_42, T_51, T_69, T_90, T_91, T_93, T_96, T_98, T_100, T_121, T_145, k93_enc, h0, g1, g2, g3, g4]
    | false =>
    cases g5 : decide ((n.f3.length : Int) > 0) with
    | true =>
      refine fn_rule (fn := fn65) rfl rfl (by simp [fn65]) ?_
      unfold fn65
      simp only [Try.f65, Option.getD_some, argEnv, List.map_nil, List.length_nil]
      simp only [go_sem, T_3, T_4, T_5, T_9, T_42, T_51, T_69, T_90, T_91, T_93, T_96, T_98, T_100, T_121, T_145, k93_enc, h0, g1, g2, g3, g4, g5]
    | false =>
    cases g6 : decide ((n.f4.length : Int) > 0) with
    | true =>
      refine fn_rule (fn := fn65) rfl rfl (by simp [fn65]) ?_
      unfold fn65
      simp only [Try.f65, Option.getD_some, argEnv, List.map_nil, List.length_nil]
      simp only [go_sem, T_3, T_4, T_5, T_9, T_42, T_51, T_69, T_90, T_91, T_93, T_96, T_98, T_100, T_121, T_145, k93_enc, h0, g1, g2, g3, g4, g5, g6]
    | false =>
    cases g7 : riseFrom n.f1 with
    | false =>
      refine fn_rule (fn := fn65) rfl rfl (by simp [fn65]) ?_
      unfold fn65
      simp only [Try.f65, Option.getD_some, argEnv, List.map_nil, List.length_nil]
      simp only [go_sem, T_3, T_4, T_5, T_9, T_42, T_51, T_69, T_90, T_91, T_93, T_96, T_98, T_100, T_121, T_145, k93_enc, h0, g1, g2, g3, g4, g5, g6, call90 n.f1 h1, g7]
    | true =>
    refine fn_rule (fn := fn65) rfl rfl (by simp [fn65]) ?_
    unfold fn65
    simp only [Try.f65, Option.getD_some, argEnv, List.map_nil, List.length_nil]
    simp only [go_sem, T_3, T_4, T_5, T_9, T_42, T_51, T_69, T_90, T_91, T_93, T_96, T_98, T_100, T_121, T_145, k93_enc, h0, g1, g2, g3, g4, g5, g6, call90 n.f1 h1, g7]
    refine loop_rule (ι := Nat) (S := fun i => ⟨[(1, .ptr 0 0 0), (49, .int .i64 n.f1.length), (50, .int .i64 i)], [some (.buf 5 [[.bool true, .fz (n.f1.map k145.enc), .fz (n.f2.map Cd.str.enc), .fz (n.f3.map k100.enc), .fz (n.f4.map k121.enc)]] false true)]⟩)
      (m := fun i => n.f1.length + 1 - i) (I := fun i => i ≤ n.f1.length ∧ (n.f1.drop i).any longPair = n.f1.any longPair) ?_ 0 _ ⟨by omega, by simp⟩ rfl
    rintro i ⟨hi, hg⟩
    by_cases hlt : i < n.f1.length
    · have hx : n.f1[i]? = some n.f1[i] := List.getElem?_eq_getElem hlt
      rw [any_drop hlt] at hg
      have hm : longPair n.f1[i] = (decide ((n.f1[i].f0.size : Int) > 16) || decide ((n.f1[i].f1.size : Int) > 32)) := rfl
      cases k1 : decide ((n.f1[i].f0.size : Int) > 16) with
      | true =>
        rw [hm, k1] at hg
        simp only [go_sem, T_3, T_4, T_5, T_9, T_42, T_51, T_69, T_90, T_91, T_93, T_96, T_98, T_100, T_121, T_145, all145, hlt, hx, k145_enc, k1]
        simp [← hg]
      | false =>
        cases k2 : decide ((n.f1[i].f1.size : Int) > 32) with
        | true =>
          rw [hm, k1, k2] at hg
          simp only [go_sem, T_3, T_4, T_5, T_9, T_42, T_51, T_69, T_90, T_91, T_93, T_96, T_98, T_100, T_121, T_145, all145, hlt, hx, k145_enc, k1, k2]
          simp [← hg]
        | false =>
          rw [hm, k1, k2] at hg
          simp only [go_sem, T_3, T_4, T_5, T_9, T_42, T_51, T_69, T_90, T_91, T_93, T_96, T_98, T_100, T_121, T_145, all145, hlt, hx, k145_enc, k1, k2, wrap_i64s (show i < 1000000000000000000 by omega)]
          exact ⟨i + 1, ⟨by omega, by simpa using hg⟩, by simp only; omega, rfl⟩
    · rw [List.drop_eq_nil_of_le (by omega)] at hg
      simp only [go_sem, T_3, T_4, T_5, T_9, T_42, T_51, T_69, T_90, T_91, T_93, T_96, T_98, T_100, T_121, T_145, hlt]
      simp [← hg]
  | false =>
    have wl : IntKind.i64.wrap ((n.f2.length : Int) + 1) = (n.f2.length : Int) + 1 := wrap_i64 (by omega) (by omega)
    simp only [Bool.false_eq_true, if_false]
    cases g4 : decide ((n.f1.length : Int) > 0) with
    | true =>
      refine fn_rule (fn := fn65) rfl rfl (by simp [fn65]) ?_
      unfold fn65
      simp only [Try.f65, Option.getD_some, argEnv, List.map_nil, List.length_nil]
      simp only [go_sem, T_3, T_4, T_5, T_9, T_42, T_51, T_69, T_90, T_91, T_93, T_96, T_98, T_100, T_121, T_145, k93_enc, h0, g1, g2, g3, g4]
    | false =>
    cases g5 : decide ((n.f3.length : Int) < 1) with
    | true =>
      refine fn_rule (fn := fn65) rfl rfl (by simp [fn65]) ?_
      unfold fn65
      simp only [Try.f65, Option.getD_some, argEnv, List.map_nil, List.length_nil]
      simp only [go_sem, T_3, T_4, T_5, T_9, T_42, T_51, T_69, T_90, T_91, T_93, T_96, T_98, T_100, T_121, T_145, k93_enc, h0, g1, g2, g3, g4, g5]
    | false =>
    cases g6 : ((n.f2.length : Int) + 1 != (n.f3.length : Int)) with
    | true =>
      refine fn_rule (fn := fn65) rfl rfl (by simp [fn65]) ?_
      unfold fn65
      simp only [Try.f65, Option.getD_some, argEnv, List.map_nil, List.length_nil]
      simp only [go_sem, T_3, T_4, T_5, T_9, T_42, T_51, T_69, T_90, T_91, T_93, T_96, T_98, T_100, T_121, T_145, k93_enc, h0, g1, g2, g3, g4, g5, wl, g6]
    | false =>
    refine fn_rule (fn := fn65) rfl rfl (by simp [fn65]) ?_
    unfold fn65
    simp only [Try.f65, Option.getD_some, argEnv, List.map_nil, List.length_nil]
    simp only [go_sem, T_3, T_4, T_5, T_9, T_42, T_51, T_69, T_90, T_91, T_93, T_96, T_98, T_100, T_121, T_145, k93_enc, h0, g1, g2, g3, g4, g5, wl, g6]
    refine loop_rule (ι := Nat) (S := fun i => ⟨[(1, .ptr 0 0 0), (94, .int .i64 n.f3.length), (95, .int .i64 i)], [some (.buf 5 [[.bool false, .fz (n.f1.map k145.enc), .fz (n.f2.map Cd.str.enc), .fz (n.f3.map k100.enc), .fz (n.f4.map k121.enc)]] false true)]⟩)
      (m := fun i => n.f3.length + 1 - i) (I := fun i => i ≤ n.f3.length ∧ (n.f3.drop i).any badKid = n.f3.any badKid) ?_ 0 _ ⟨by omega, by simp⟩ rfl
    rintro i ⟨hi, hg⟩
    by_cases hlt : i < n.f3.length
    · have hx : n.f3[i]? = some n.f3[i] := List.getElem?_eq_getElem hlt
      rw [any_drop hlt] at hg
      have hm : badKid n.f3[i] = (decide (n.f3[i].f1 < 1) || (decide ((n.f3[i].f2.f0.size : Int) > 16) || decide ((n.f3[i].f2.f1.size : Int) > 16))) := rfl
      cases k1 : decide (n.f3[i].f1 < 1) with
      | true =>
        rw [hm, k1] at hg
        simp only [go_sem, T_3, T_4, T_5, T_9, T_42, T_51, T_69, T_90, T_91, T_93, T_96, T_98, T_100, T_121, T_145, all100, hlt, hx, k100_enc, k1]
        simp [← hg]
      | false =>
        cases k2 : decide ((n.f3[i].f2.f0.size : Int) > 16) with
        | true =>
          rw [hm, k1, k2] at hg
          simp only [go_sem, T_3, T_4, T_5, T_9, T_42, T_51, T_69, T_90, T_91, T_93, T_96, T_98, T_100, T_121, T_145, all100, hlt, hx, k100_enc, k1, k2]
          simp [← hg]
        | false =>
          cases k3 : decide ((n.f3[i].f2.f1.size : Int) > 16) with
          | true =>
            rw [hm, k1, k2, k3] at hg
            simp only [go_sem, T_3, T_4, T_5, T_9, T_42, T_51, T_69, T_90, T_91, T_93, T_96, T_98, T_100, T_121, T_145, all100, hlt, hx, k100_enc, k1, k2, k3]
            simp [← hg]
          | false =>
            rw [hm, k1, k2, k3] at hg
            simp only [go_sem, T_3, T_4, T_5, T_9, T_42, T_51, T_69, T_90, T_91, T_93, T_96, T_98, T_100, T_121, T_145, all100, hlt, hx, k100_enc, k1, k2, k3, wrap_i64s (show i < 1000000000000000000 by omega)]
            exact ⟨i + 1, ⟨by omega, by simpa using hg⟩, by simp only; omega, rfl⟩
    rw [List.drop_eq_nil_of_le (by omega)] at hg
    have hk : n.f3.any badKid = false := by rw [← hg]; rfl
    rw [hk]
    simp only [Bool.false_eq_true, if_false]
    simp only [go_sem, T_3, T_4, T_5, T_9, T_42, T_51, T_69, T_90, T_91, T_93, T_96, T_98, T_100, T_121, T_145, hlt]
    clear hlt hi hg
    refine loop_rule (ι := Nat) (S := fun i => ⟨[(1, .ptr 0 0 0), (130, .int .i64 n.f2.length), (131, .int .i64 i)], [some (.buf 5 [[.bool false, .fz (n.f1.map k145.enc), .fz (n.f2.map Cd.str.enc), .fz (n.f3.map k100.enc), .fz (n.f4.map k121.enc)]] false true)]⟩)
      (m := fun i => n.f2.length + 1 - i) (I := fun i => i ≤ n.f2.length ∧ pivBad (if i = 0 then none else n.f2[i - 1]?) (n.f2.drop i) = pivBad none n.f2) ?_ 0 _ ⟨by omega, by simp⟩ rfl
    rintro i ⟨hi, hg⟩
    by_cases hlt : i < n.f2.length
    · have hx : n.f2[i]? = some n.f2[i] := List.getElem?_eq_getElem hlt
      have hle : ∀ a b : ByteArray, (Op.bytesLess a.toList b.toList || decide (a = b)) = leS a b := fun a b => by unfold leS; rw [ba_toList]
      rw [List.drop_eq_getElem_cons hlt] at hg
      have hm : badPiv n.f2[i] = (decide (n.f2[i] = ⟨#[]⟩) || decide ((n.f2[i].size : Int) > 16)) := rfl
      cases k1 : decide (n.f2[i] = ⟨#[]⟩) with
      | true =>
        have hp : pivBad none n.f2 = true := by
          rw [← hg]
          cases (if i = 0 then none else n.f2[i - 1]?) <;> simp [pivBad, hm, k1]
        simp only [go_sem, T_3, T_4, T_5, T_9, T_42, T_51, T_69, T_90, T_91, T_93, T_96, T_98, T_100, T_121, T_145, hlt, hx, ba_toList, k1]
        simp [hp]
      | false =>
        cases k2 : decide ((n.f2[i].size : Int) > 16) with
        | true =>
          have hp : pivBad none n.f2 = true := by
            rw [← hg]
            cases (if i = 0 then none else n.f2[i - 1]?) <;> simp [pivBad, hm, k1, k2]
          simp only [go_sem, T_3, T_4, T_5, T_9, T_42, T_51, T_69, T_90, T_91, T_93, T_96, T_98, T_100, T_121, T_145, hlt, hx, ba_toList, k1, k2]
          simp [hp]
        | false =>
          cases i with
          | zero =>
            have k3 : decide (((0 : Nat) : Int) > 0) = false := by simp
            simp only [if_true, pivBad, hm, k1, k2, Bool.or_self, Bool.false_or] at hg
            simp only [go_sem, T_3, T_4, T_5, T_9, T_42, T_51, T_69, T_90, T_91, T_93, T_96, T_98, T_100, T_121, T_145, hlt, hx, ba_toList, k1, k2, k3, wrap_i64s (show 0 < 1000000000000000000 by omega)]
            exact ⟨1, ⟨by omega, by simpa [hx] using hg⟩, by simp only; omega, rfl⟩
          | succ i =>
            have k3 : decide (((i + 1 : Nat) : Int) > 0) = true := decide_eq_true (by omega)
            have hy : n.f2[i]? = some (n.f2[i]'(by omega)) := List.getElem?_eq_getElem (by omega)
            simp only [Nat.add_one_ne_zero, if_false, Nat.add_sub_cancel, hy, pivBad, hm, k1, k2, Bool.or_self, Bool.false_or] at hg
            cases k4 : leS n.f2[i + 1] (n.f2[i]'(by omega)) with
            | true =>
              rw [k4] at hg
              simp only [go_sem, T_3, T_4, T_5, T_9, T_42, T_51, T_69, T_90, T_91, T_93, T_96, T_98, T_100, T_121, T_145, hlt, hx, hy, ba_toList, k1, k2, k3, wrap_i64p (show i < 1000000000000000000 by omega), hle, k4]
              simp [← hg]
            | false =>
              rw [k4] at hg
              simp only [go_sem, T_3, T_4, T_5, T_9, T_42, T_51, T_69, T_90, T_91, T_93, T_96, T_98, T_100, T_121, T_145, hlt, hx, hy, ba_toList, k1, k2, k3, wrap_i64p (show i < 1000000000000000000 by omega), wrap_i64s (show i + 1 < 1000000000000000000 by omega), hle, k4]
              exact ⟨i + 1 + 1, ⟨by omega, by simpa [hx] using hg⟩, by simp only; omega, rfl⟩
    rw [List.drop_eq_nil_of_le (by omega)] at hg
    have hp : pivBad none n.f2 = false := by
      rw [← hg]
      cases (if i = 0 then none else n.f2[i - 1]?) <;> rfl
    rw [hp]
    simp only [Bool.false_eq_true, if_false]
    simp only [go_sem, T_3, T_4, T_5, T_9, T_42, T_51, T_69, T_90, T_91, T_93, T_96, T_98, T_100, T_121, T_145, hlt]
    clear hlt hi hg
    refine loop_rule (ι := Nat) (S := fun i => ⟨[(1, .ptr 0 0 0), (170, .int .i64 n.f4.length), (171, .int .i64 i)], [some (.buf 5 [[.bool false, .fz (n.f1.map k145.enc), .fz (n.f2.map Cd.str.enc), .fz (n.f3.map k100.enc), .fz (n.f4.map k121.enc)]] false true)]⟩)
      (m := fun i => n.f4.length + 1 - i) (I := fun i => i ≤ n.f4.length ∧ (n.f4.drop i).any (fun m => !mayMsg m) = n.f4.any (fun m => !mayMsg m)) ?_ 0 _ ⟨by omega, by simp⟩ rfl
    rintro i ⟨hi, hg⟩
    by_cases hlt : i < n.f4.length
    · have hx : n.f4[i]? = some n.f4[i] := List.getElem?_eq_getElem hlt
      rw [any_drop hlt] at hg
      have hc := call134 n.f4[i]
      simp only [k121_enc] at hc
      cases k1 : mayMsg n.f4[i] with
      | true =>
        rw [k1] at hg
        simp only [go_sem, T_3, T_4, T_5, T_9, T_42, T_51, T_69, T_90, T_91, T_93, T_96, T_98, T_100, T_121, T_145, all121, hlt, hx, k121_enc, hc, k1, wrap_i64s (show i < 1000000000000000000 by omega)]
        exact ⟨i + 1, ⟨by omega, by simpa using hg⟩, by simp only; omega, rfl⟩
      | false =>
        rw [k1] at hg
        simp only [go_sem, T_3, T_4, T_5, T_9, T_42, T_51, T_69, T_90, T_91, T_93, T_96, T_98, T_100, T_121, T_145, all121, hlt, hx, k121_enc, hc, k1]
        simp [← hg]
    · rw [List.drop_eq_nil_of_le (by omega)] at hg
      simp only [go_sem, T_3, T_4, T_5, T_9, T_42, T_51, T_69, T_90, T_91, T_93, T_96, T_98, T_100, T_121, T_145, hlt]
      simp [← hg]
theorem call65 (n : S93) (hn : fewN n) (k : Nat) : callV (LX T fns) k (.clo 65 []) [.agg (k93.enc n)] = .pure (.int .i64 (mayN n), []) := callV_plain (fn := fn65) rfl rfl rfl (lim65 n hn) k
end Go.Proofs.Ytfdemnefkfkghaa.R
/- Chapter 33's law: may a node be? (the program's) -/
namespace Go.Proofs.Ytfdemnefkfkghaa.R
open Go Go.Proofs
set_option linter.unusedSimpArgs false
set_option linter.unusedVariables false
set_option maxRecDepth 10000
set_option maxHeartbeats 4000000

def firstI {α : Type} (f : α → Bool) : List α → Nat → Int
  | [], _ => -1
  | x :: r, i => if f x = true then (i : Int) else firstI f r (i + 1)
theorem firstI_drop {α : Type} {f : α → Bool} {l : List α} {i : Nat} (h : i < l.length) : firstI f (l.drop i) i = if f l[i] = true then (i : Int) else firstI f (l.drop (i + 1)) (i + 1) := by
  rw [List.drop_eq_getElem_cons h]
  rfl
theorem firstI_any {α : Type} {f : α → Bool} : ∀ {l : List α} {i : Nat}, decide (firstI f l i ≥ 0) = l.any f
  | [], i => by simp [firstI]
  | x :: r, i => by
    unfold firstI
    rw [List.any_cons]
    by_cases h : f x = true
    · rw [if_pos h, h, Bool.true_or]
      exact decide_eq_true (by omega)
    · rw [if_neg h, firstI_any]
      simp [h]

theorem lim221 (m : S121) : lim T fns 221 [.agg (k121.enc m)] [] = some (.bool (!mayMsg2 m), []) := by
  have hc := call222 m
  simp only [k121_enc] at hc
  refine fn_rule (fn := fn221) rfl rfl (by simp [fn221]) ?_
  unfold fn221
  simp only [Try.f221, Option.getD_some, argEnv, List.map_nil, List.length_nil]
  simp only [go_sem, T_4, T_5, T_9, T_42, T_96, T_121, k121_enc, hc]
theorem call221 (m : S121) (n : Nat) : callV (LX T fns) n (.clo 221 []) [.agg (k121.enc m)] = .pure (.bool (!mayMsg2 m), []) := callV_plain (fn := fn221) rfl rfl rfl (lim221 m) n

theorem lim236 (l : List S121) (hl : l.length < 1000000000000) : lim T fns 236 [.fz (l.map k121.enc), .clo 221 []] [] = some (.int .i64 (firstI (fun m => !mayMsg2 m) l 0), []) := by
  refine fn_rule (fn := fn236) rfl rfl (by simp [fn236]) ?_
  unfold fn236
  simp only [Try.f236, Option.getD_some, argEnv, List.map_nil, List.length_nil]
  simp only [go_sem, T_3, T_5, T_9, T_42, T_91, T_96, T_121]
  refine loop_rule (ι := Nat) (S := fun i => ⟨[(0, .fz (l.map k121.enc)), (1, .clo 221 []), (7, .int .i64 l.length), (8, .int .i64 i)], []⟩) (m := fun i => l.length + 1 - i)
    (I := fun i => i ≤ l.length ∧ firstI (fun m => !mayMsg2 m) (l.drop i) i = firstI (fun m => !mayMsg2 m) l 0) ?_ 0 _ ⟨by omega, by simp⟩ rfl
  rintro i ⟨hi, hg⟩
  by_cases hlt : i < l.length
  · have hx : l[i]? = some l[i] := List.getElem?_eq_getElem hlt
    have hc := call221 l[i]
    simp only [k121_enc] at hc
    rw [firstI_drop hlt] at hg
    cases k1 : mayMsg2 l[i] with
    | true =>
      simp only [go_sem, T_3, T_5, T_9, T_42, T_91, T_96, T_121, all121, hlt, hx, k121_enc, hc, k1, wrap_i64s (show i < 1000000000000000000 by omega)]
      exact ⟨i + 1, ⟨by omega, by simpa [k1] using hg⟩, by simp only; omega, rfl⟩
    | false =>
      simp only [go_sem, T_3, T_5, T_9, T_42, T_91, T_96, T_121, all121, hlt, hx, k121_enc, hc, k1]
      simp [← hg, k1]
  · rw [List.drop_eq_nil_of_le (by omega)] at hg
    simp only [go_sem, T_3, T_5, T_9, T_42, T_91, T_96, T_121, hlt]
    rw [← hg]
    rfl
theorem call236 (l : List S121) (hl : l.length < 1000000000000) (n : Nat) : callV (LX T fns) n (.clo 236 []) [.fz (l.map k121.enc), .clo 221 []] = .pure (.int .i64 (firstI (fun m => !mayMsg2 m) l 0), []) := callV_plain (fn := fn236) rfl rfl rfl (lim236 l hl) n
theorem lim220 (l : List S121) (hl : l.length < 1000000000000) : lim T fns 220 [.fz (l.map k121.enc), .clo 221 []] [] = some (.bool (l.any fun m => !mayMsg m), []) := by
  refine fn_rule (fn := fn220) rfl rfl (by simp [fn220]) ?_
  unfold fn220
  simp only [Try.f220, Option.getD_some, argEnv, List.map_nil, List.length_nil]
  simp only [go_sem, T_3, T_5, T_9, T_42, T_91, T_96, T_121, T_198, call236 l hl]
  have : (fun m => !mayMsg2 m) = fun m => !mayMsg m := by
    funext m
    rw [mayMsg2_eq]
  rw [firstI_any, this]
theorem call220 (l : List S121) (hl : l.length < 1000000000000) (n : Nat) : callV (LX T fns) n (.clo 220 []) [.fz (l.map k121.enc), .clo 221 []] = .pure (.bool (l.any fun m => !mayMsg m), []) := callV_plain (fn := fn220) rfl rfl rfl (lim220 l hl) n

/-- Are pairs wrong? -/
def pairBad : Option ByteArray → List S145 → Bool
  | _, [] => false
  | none, p :: r => longPair p || pairBad (some p.f0) r
  | some q, p :: r => longPair p || (leS p.f0 q || pairBad (some p.f0) r)
theorem pairBad_some : ∀ {l : List S145} {x : S145}, pairBad (some x.f0) l = (l.any longPair || !riseFrom (x :: l))
  | [], x => rfl
  | p :: r, x => by
    simp only [pairBad, List.any_cons, riseFrom, pairBad_some]
    cases longPair p <;> cases leS p.f0 x.f0 <;> cases r.any longPair <;> cases riseFrom (p :: r) <;> rfl
theorem pairBad_none {l : List S145} : pairBad none l = (l.any longPair || !riseFrom l) := by
  cases l with
  | nil => rfl
  | cons p r =>
    simp only [pairBad, pairBad_some, List.any_cons, Bool.or_assoc]

def leafB (n : S93) : Bool := if decide ((n.f2.length : Int) + (n.f3.length : Int) + (n.f4.length : Int) > 0) = true then false else !pairBad none n.f1
theorem lim185 (n : S93) (hn : fewN n) : lim T fns 185 [.agg (k93.enc n)] [] = some (.bool (leafB n), []) := by
  obtain ⟨h1, h2, h3, h4⟩ := hn
  have w1 : IntKind.i64.wrap ((n.f2.length : Int) + (n.f3.length : Int)) = (n.f2.length : Int) + (n.f3.length : Int) := wrap_i64 (by omega) (by omega)
  have w2 : IntKind.i64.wrap ((n.f2.length : Int) + (n.f3.length : Int) + (n.f4.length : Int)) = (n.f2.length : Int) + (n.f3.length : Int) + (n.f4.length : Int) := wrap_i64 (by omega) (by omega)
  unfold leafB
  cases g1 : decide ((n.f2.length : Int) + (n.f3.length : Int) + (n.f4.length : Int) > 0) with
  | true =>
    refine fn_rule (fn := fn185) rfl rfl (by simp [fn185]) ?_
    unfold fn185
    simp only [Try.f185, Option.getD_some, argEnv, List.map_nil, List.length_nil]
    simp only [go_sem, T_3, T_4, T_5, T_9, T_42, T_51, T_69, T_90, T_91, T_93, T_96, T_98, T_100, T_121, T_145, k93_enc, w1, w2, g1]
  | false =>
  simp only [Bool.false_eq_true, if_false]
  refine fn_rule (fn := fn185) rfl rfl (by simp [fn185]) ?_
  unfold fn185
  simp only [Try.f185, Option.getD_some, argEnv, List.map_nil, List.length_nil]
  simp only [go_sem, T_3, T_4, T_5, T_9, T_42, T_51, T_69, T_90, T_91, T_93, T_96, T_98, T_100, T_121, T_145, k93_enc, w1, w2, g1]
  refine loop_rule (ι := Nat) (S := fun i => ⟨[(1, .ptr 0 0 0), (18, .fz (n.f1.map k145.enc)), (19, .int .i64 n.f1.length), (20, .int .i64 i)], [some (.buf 5 [[.bool n.f0, .fz (n.f1.map k145.enc), .fz (n.f2.map Cd.str.enc), .fz (n.f3.map k100.enc), .fz (n.f4.map k121.enc)]] false true)]⟩)
    (m := fun i => n.f1.length + 1 - i) (I := fun i => i ≤ n.f1.length ∧ pairBad (if i = 0 then none else n.f1[i - 1]?.map (·.f0)) (n.f1.drop i) = pairBad none n.f1) ?_ 0 _ ⟨by omega, by simp⟩ rfl
  rintro i ⟨hi, hg⟩
  by_cases hlt : i < n.f1.length
  · have hx : n.f1[i]? = some n.f1[i] := List.getElem?_eq_getElem hlt
    have hle : ∀ a b : ByteArray, (Op.bytesLess a.toList b.toList || a.toList == b.toList) = leS a b := fun a b => rfl
    rw [List.drop_eq_getElem_cons hlt] at hg
    have hm : longPair n.f1[i] = (decide ((n.f1[i].f0.size : Int) > 16) || decide ((n.f1[i].f1.size : Int) > 32)) := rfl
    cases k1 : decide ((n.f1[i].f0.size : Int) > 16) with
    | true =>
      have hp : pairBad none n.f1 = true := by
        rw [← hg]
        cases (if i = 0 then none else n.f1[i - 1]?.map (·.f0)) <;> simp [pairBad, hm, k1]
      simp only [go_sem, T_3, T_4, T_5, T_9, T_42, T_51, T_69, T_90, T_91, T_93, T_96, T_98, T_100, T_121, T_145, all145, hlt, hx, k145_enc, k1]
      simp [hp]
    | false =>
      cases k2 : decide ((n.f1[i].f1.size : Int) > 32) with
      | true =>
        have hp : pairBad none n.f1 = true := by
          rw [← hg]
          cases (if i = 0 then none else n.f1[i - 1]?.map (·.f0)) <;> simp [pairBad, hm, k1, k2]
        simp only [go_sem, T_3, T_4, T_5, T_9, T_42, T_51, T_69, T_90, T_91, T_93, T_96, T_98, T_100, T_121, T_145, all145, hlt, hx, k145_enc, k1, k2]
        simp [hp]
      | false =>
        cases i with
        | zero =>
          have k3 : decide (((0 : Nat) : Int) > 0) = false := by simp
          simp only [if_true, pairBad, hm, k1, k2, Bool.or_self, Bool.false_or] at hg
          simp only [go_sem, T_3, T_4, T_5, T_9, T_42, T_51, T_69, T_90, T_91, T_93, T_96, T_98, T_100, T_121, T_145, all145, hlt, hx, k145_enc, k1, k2, k3, wrap_i64s (show 0 < 1000000000000000000 by omega)]
          exact ⟨1, ⟨by omega, by simpa [hx] using hg⟩, by simp only; omega, rfl⟩
        | succ i =>
          have k3 : decide (((i + 1 : Nat) : Int) > 0) = true := decide_eq_true (by omega)
          have hy : n.f1[i]? = some (n.f1[i]'(by omega)) := List.getElem?_eq_getElem (by omega)
          simp only [Nat.add_one_ne_zero, if_false, Nat.add_sub_cancel, hy, Option.map_some, pairBad, hm, k1, k2, Bool.or_self, Bool.false_or] at hg
          cases k4 : leS n.f1[i + 1].f0 (n.f1[i]'(by omega)).f0 with
          | true =>
            rw [k4] at hg
            simp only [go_sem, T_3, T_4, T_5, T_9, T_42, T_51, T_69, T_90, T_91, T_93, T_96, T_98, T_100, T_121, T_145, all145, hlt, hx, hy, k145_enc, k1, k2, k3, wrap_i64p (show i < 1000000000000000000 by omega), hle, k4]
            simp [← hg]
          | false =>
            rw [k4] at hg
            simp only [go_sem, T_3, T_4, T_5, T_9, T_42, T_51, T_69, T_90, T_91, T_93, T_96, T_98, T_100, T_121, T_145, all145, hlt, hx, hy, k145_enc, k1, k2, k3, wrap_i64p (show i < 1000000000000000000 by omega), wrap_i64s (show i + 1 < 1000000000000000000 by omega), hle, k4]
            exact ⟨i + 1 + 1, ⟨by omega, by simpa [hx] using hg⟩, by simp only; omega, rfl⟩
  · rw [List.drop_eq_nil_of_le (by omega)] at hg
    have hp : pairBad none n.f1 = false := by
      rw [← hg]
      cases (if i = 0 then none else n.f1[i - 1]?.map (·.f0)) <;> rfl
    rw [hp]
    simp only [go_sem, T_3, T_4, T_5, T_9, T_42, T_51, T_69, T_90, T_91, T_93, T_96, T_98, T_100, T_121, T_145, hlt]
theorem call185 (n : S93) (hn : fewN n) (k : Nat) : callV (LX T fns) k (.clo 185 []) [.agg (k93.enc n)] = .pure (.bool (leafB n), []) := callV_plain (fn := fn185) rfl rfl rfl (lim185 n hn) k

def badKid2 (e : S100) : Bool := (e.f1 == 0) || (!decide (e.f2.f0.size ≤ 16) || !decide (e.f2.f1.size ≤ 16))
def pivBad2 : ByteArray → List ByteArray → Bool
  | _, [] => false
  | q, p :: r => leS p q || (!decide (p.size ≤ 16) || pivBad2 p r)
def formB (n : S93) : Bool :=
  if (decide ((n.f1.length : Int) > 0) || (((n.f3.length : Int) == 0) || ((n.f2.length : Int) != (n.f3.length : Int) - 1))) = true then false else
    if n.f3.any badKid2 = true then false else if pivBad2 ⟨#[]⟩ n.f2 = true then false else !n.f4.any fun m => !mayMsg m

theorem lim186 (n : S93) (hn : fewN n) : lim T fns 186 [.agg (k93.enc n)] [] = some (.bool (formB n), []) := by
  obtain ⟨h1, h2, h3, h4⟩ := hn
  have w1 : IntKind.i64.wrap ((n.f3.length : Int) - 1) = (n.f3.length : Int) - 1 := wrap_i64 (by omega) (by omega)
  unfold formB
  cases g1 : decide ((n.f1.length : Int) > 0) with
  | true =>
    refine fn_rule (fn := fn186) rfl rfl (by simp [fn186]) ?_
    unfold fn186
    simp only [Try.f186, Option.getD_some, argEnv, List.map_nil, List.length_nil]
    simp only [go_sem, T_3, T_4, T_5, T_9, T_42, T_51, T_69, T_90, T_91, T_93, T_96, T_98, T_100, T_121, T_145, T_198, k93_enc, g1]
  | false =>
  cases g2 : ((n.f3.length : Int) == 0) with
  | true =>
    refine fn_rule (fn := fn186) rfl rfl (by simp [fn186]) ?_
    unfold fn186
    simp only [Try.f186, Option.getD_some, argEnv, List.map_nil, List.length_nil]
    simp only [go_sem, T_3, T_4, T_5, T_9, T_42, T_51, T_69, T_90, T_91, T_93, T_96, T_98, T_100, T_121, T_145, T_198, k93_enc, g1, g2]
  | false =>
  cases g3 : ((n.f2.length : Int) != (n.f3.length : Int) - 1) with
  | true =>
    refine fn_rule (fn := fn186) rfl rfl (by simp [fn186]) ?_
    unfold fn186
    simp only [Try.f186, Option.getD_some, argEnv, List.map_nil, List.length_nil]
    simp only [go_sem, T_3, T_4, T_5, T_9, T_42, T_51, T_69, T_90, T_91, T_93, T_96, T_98, T_100, T_121, T_145, T_198, k93_enc, g1, g2, w1, g3]
  | false =>
  simp only [Bool.or_self, Bool.false_eq_true, if_false]
  refine fn_rule (fn := fn186) rfl rfl (by simp [fn186]) ?_
  unfold fn186
  simp only [Try.f186, Option.getD_some, argEnv, List.map_nil, List.length_nil]
  simp only [go_sem, T_3, T_4, T_5, T_9, T_42, T_51, T_69, T_90, T_91, T_93, T_96, T_98, T_100, T_121, T_145, T_198, k93_enc, g1, g2, w1, g3]
  refine loop_rule (ι := Nat) (S := fun i => ⟨[(1, .ptr 0 0 0), (29, .fz (n.f3.map k100.enc)), (30, .int .i64 n.f3.length), (31, .int .i64 i)], [some (.buf 5 [[.bool n.f0, .fz (n.f1.map k145.enc), .fz (n.f2.map Cd.str.enc), .fz (n.f3.map k100.enc), .fz (n.f4.map k121.enc)]] false true)]⟩)
    (m := fun i => n.f3.length + 1 - i) (I := fun i => i ≤ n.f3.length ∧ (n.f3.drop i).any badKid2 = n.f3.any badKid2) ?_ 0 _ ⟨by omega, by simp⟩ rfl
  rintro i ⟨hi, hg⟩
  by_cases hlt : i < n.f3.length
  · have hx : n.f3[i]? = some n.f3[i] := List.getElem?_eq_getElem hlt
    rw [any_drop hlt] at hg
    have hm : badKid2 n.f3[i] = ((n.f3[i].f1 == 0) || (!decide (n.f3[i].f2.f0.size ≤ 16) || !decide (n.f3[i].f2.f1.size ≤ 16))) := rfl
    cases k1 : (n.f3[i].f1 == 0) with
    | true =>
      rw [hm, k1] at hg
      simp only [go_sem, T_3, T_4, T_5, T_9, T_42, T_51, T_69, T_90, T_91, T_93, T_96, T_98, T_100, T_121, T_145, T_198, all100, hlt, hx, k100_enc, k1]
      simp [← hg]
    | false =>
      cases k2 : decide (n.f3[i].f2.f0.size ≤ 16) with
      | false =>
        rw [hm, k1, k2] at hg
        simp only [go_sem, T_3, T_4, T_5, T_9, T_42, T_51, T_69, T_90, T_91, T_93, T_96, T_98, T_100, T_121, T_145, T_198, all100, hlt, hx, k100_enc, k1, call219, k2]
        simp [← hg]
      | true =>
        cases k3 : decide (n.f3[i].f2.f1.size ≤ 16) with
        | false =>
          rw [hm, k1, k2, k3] at hg
          simp only [go_sem, T_3, T_4, T_5, T_9, T_42, T_51, T_69, T_90, T_91, T_93, T_96, T_98, T_100, T_121, T_145, T_198, all100, hlt, hx, k100_enc, k1, call219, k2, k3]
          simp [← hg]
        | true =>
          rw [hm, k1, k2, k3] at hg
          simp only [go_sem, T_3, T_4, T_5, T_9, T_42, T_51, T_69, T_90, T_91, T_93, T_96, T_98, T_100, T_121, T_145, T_198, all100, hlt, hx, k100_enc, k1, call219, k2, k3, wrap_i64s (show i < 1000000000000000000 by omega)]
          exact ⟨i + 1, ⟨by omega, by simpa using hg⟩, by simp only; omega, rfl⟩
  rw [List.drop_eq_nil_of_le (by omega)] at hg
  have hk : n.f3.any badKid2 = false := by rw [← hg]; rfl
  rw [hk]
  simp only [Bool.false_eq_true, if_false]
  simp only [go_sem, T_3, T_4, T_5, T_9, T_42, T_51, T_69, T_90, T_91, T_93, T_96, T_98, T_100, T_121, T_145, T_198, hlt]
  clear hlt hi hg
  refine loop_rule (ι := Nat) (S := fun i => ⟨[(1, .ptr 0 0 0), (5, .str (if i = 0 then ⟨#[]⟩ else (n.f2[i - 1]?).getD ⟨#[]⟩)), (54, .fz (n.f2.map Cd.str.enc)), (55, .int .i64 n.f2.length), (56, .int .i64 i)], [some (.buf 5 [[.bool n.f0, .fz (n.f1.map k145.enc), .fz (n.f2.map Cd.str.enc), .fz (n.f3.map k100.enc), .fz (n.f4.map k121.enc)]] false true)]⟩)
    (m := fun i => n.f2.length + 1 - i) (I := fun i => i ≤ n.f2.length ∧ pivBad2 (if i = 0 then ⟨#[]⟩ else (n.f2[i - 1]?).getD ⟨#[]⟩) (n.f2.drop i) = pivBad2 ⟨#[]⟩ n.f2) ?_ 0 _ ⟨by omega, by simp⟩ rfl
  rintro i ⟨hi, hg⟩
  generalize hq : (if i = 0 then (⟨#[]⟩ : ByteArray) else (n.f2[i - 1]?).getD ⟨#[]⟩) = q at hg
  by_cases hlt : i < n.f2.length
  · have hx : n.f2[i]? = some n.f2[i] := List.getElem?_eq_getElem hlt
    have hle : ∀ a b : ByteArray, (Op.bytesLess a.toList b.toList || a.toList == b.toList) = leS a b := fun a b => rfl
    rw [List.drop_eq_getElem_cons hlt] at hg
    simp only [pivBad2] at hg
    cases k1 : leS n.f2[i] q with
    | true =>
      rw [k1] at hg
      simp only [go_sem, T_3, T_4, T_5, T_9, T_42, T_51, T_69, T_90, T_91, T_93, T_96, T_98, T_100, T_121, T_145, T_198, hlt, hx, hle, hq, k1]
      simp [← hg]
    | false =>
      cases k2 : decide (n.f2[i].size ≤ 16) with
      | false =>
        rw [k1, k2] at hg
        simp only [go_sem, T_3, T_4, T_5, T_9, T_42, T_51, T_69, T_90, T_91, T_93, T_96, T_98, T_100, T_121, T_145, T_198, hlt, hx, hle, hq, k1, call219, k2]
        simp [← hg]
      | true =>
        rw [k1, k2] at hg
        simp only [go_sem, T_3, T_4, T_5, T_9, T_42, T_51, T_69, T_90, T_91, T_93, T_96, T_98, T_100, T_121, T_145, T_198, hlt, hx, hle, hq, k1, call219, k2, wrap_i64s (show i < 1000000000000000000 by omega)]
        refine ⟨i + 1, ⟨by omega, by simpa [hx] using hg⟩, by simp only; omega, ?_⟩
        simp only [Nat.add_one_ne_zero, if_false, Nat.add_sub_cancel, hx, Option.getD_some]
        rfl
  rw [List.drop_eq_nil_of_le (by omega)] at hg
  have hp : pivBad2 ⟨#[]⟩ n.f2 = false := by rw [← hg]; rfl
  rw [hp]
  simp only [Bool.false_eq_true, if_false]
  simp only [go_sem, T_3, T_4, T_5, T_9, T_42, T_51, T_69, T_90, T_91, T_93, T_96, T_98, T_100, T_121, T_145, T_198, hlt, hq, call220 n.f4 h4]
theorem call186 (n : S93) (hn : fewN n) (k : Nat) : callV (LX T fns) k (.clo 186 []) [.agg (k93.enc n)] = .pure (.bool (formB n), []) := callV_plain (fn := fn186) rfl rfl rfl (lim186 n hn) k

theorem leS_nil (p : ByteArray) : leS p ⟨#[]⟩ = decide (p = ⟨#[]⟩) := by
  unfold leS
  rw [ba_toList]
  have : Op.bytesLess p.toList (⟨#[]⟩ : ByteArray).toList = false := by
    have e : (⟨#[]⟩ : ByteArray).toList = [] := by simp [ByteArray.toList_eq]
    rw [e]
    cases p.toList <;> rfl
  rw [this, Bool.false_or]
theorem nil_leS (q : ByteArray) : leS ⟨#[]⟩ q = true := by
  unfold leS
  have e : (⟨#[]⟩ : ByteArray).toList = [] := by simp [ByteArray.toList_eq]
  rw [e]
  cases q.toList <;> rfl
theorem size_dec (p : ByteArray) (k : Nat) : decide ((p.size : Int) > k) = !decide (p.size ≤ k) := by
  by_cases h : p.size ≤ k
  · have : ¬ (p.size : Int) > k := by omega
    simp [h, this]
  · have : (p.size : Int) > k := by omega
    simp [h, this]
theorem pivBad_some : ∀ {l : List ByteArray} {q : ByteArray}, pivBad (some q) l = pivBad2 q l
  | [], q => rfl
  | p :: r, q => by
    have hs := size_dec p 16
    simp only [pivBad, pivBad2, pivBad_some, badPiv]
    rw [show decide ((p.size : Int) > 16) = !decide (p.size ≤ 16) from hs]
    by_cases h : p = ⟨#[]⟩
    · subst h
      simp [nil_leS]
    · simp only [h, decide_false, Bool.false_or]
      cases leS p q <;> cases decide (p.size ≤ 16) <;> cases pivBad2 p r <;> rfl
theorem pivBad_none {l : List ByteArray} : pivBad none l = pivBad2 ⟨#[]⟩ l := by
  cases l with
  | nil => rfl
  | cons p r =>
    have hs := size_dec p 16
    simp only [pivBad, pivBad2, pivBad_some, badPiv, leS_nil]
    rw [show decide ((p.size : Int) > 16) = !decide (p.size ≤ 16) from hs, Bool.or_assoc]
theorem badKid_eq {e : S100} (h : 0 ≤ e.f1) : badKid2 e = badKid e := by
  unfold badKid badKid2
  have h1 := size_dec e.f2.f0 16
  have h2 := size_dec e.f2.f1 16
  rw [show decide ((e.f2.f0.size : Int) > 16) = !decide (e.f2.f0.size ≤ 16) from h1, show decide ((e.f2.f1.size : Int) > 16) = !decide (e.f2.f1.size ≤ 16) from h2]
  have h3 : (e.f1 == 0) = decide (e.f1 < 1) := by
    rw [Bool.eq_iff_iff]
    simp only [beq_iff_eq, decide_eq_true_eq]
    omega
  rw [h3]
theorem any_congr' {α : Type} {f g : α → Bool} : ∀ {l : List α}, (∀ x ∈ l, f x = g x) → l.any f = l.any g
  | [], _ => rfl
  | x :: l, h => by
    rw [List.any_cons, List.any_cons, h x (.head _), any_congr' fun y hy => h y (.tail _ hy)]

/-- What the program says of a node. -/
def mayP (n : S93) : Int :=
  if (decide ((n.f1.length : Int) > 16) || (decide ((n.f3.length : Int) > 8) || decide ((n.f4.length : Int) > 16))) = true then 13 else
  if n.f0 = true then (if leafB n = true then 0 else 3) else if formB n = true then 0 else 3
theorem mayP_eq (n : S93) (hw : wfN n) : mayP n = mayN n := by
  have hkid : n.f3.any badKid2 = n.f3.any badKid := any_congr' fun e he => badKid_eq (hw.1 e he).1
  unfold mayP mayN leafB formB
  rw [pairBad_none, pivBad_none, hkid]
  split
  · rfl
  split
  · have e1 : decide ((n.f2.length : Int) + (n.f3.length : Int) + (n.f4.length : Int) > 0) = (decide ((n.f2.length : Int) > 0) || (decide ((n.f3.length : Int) > 0) || decide ((n.f4.length : Int) > 0))) := by
      rw [Bool.eq_iff_iff]
      simp only [Bool.or_eq_true, decide_eq_true_eq]
      omega
    rw [e1]
    cases decide ((n.f2.length : Int) > 0) <;> cases decide ((n.f3.length : Int) > 0) <;> cases decide ((n.f4.length : Int) > 0) <;> cases riseFrom n.f1 <;> cases n.f1.any longPair <;> rfl
  · have e1 : ((n.f3.length : Int) == 0) = decide ((n.f3.length : Int) < 1) := by
      rw [Bool.eq_iff_iff]
      simp only [beq_iff_eq, decide_eq_true_eq]
      omega
    have e2 : ((n.f2.length : Int) != (n.f3.length : Int) - 1) = ((n.f2.length : Int) + 1 != (n.f3.length : Int)) := by
      rw [Bool.eq_iff_iff]
      simp only [bne_iff_ne]
      omega
    rw [e1, e2]
    cases decide ((n.f1.length : Int) > 0) <;> cases decide ((n.f3.length : Int) < 1) <;> cases ((n.f2.length : Int) + 1 != (n.f3.length : Int)) <;> cases n.f3.any badKid <;> cases pivBad2 ⟨#[]⟩ n.f2 <;> cases (n.f4.any fun m => !mayMsg m) <;> rfl

theorem lim129 (n : S93) (hn : fewN n) (hw : wfN n) : lim T fns 129 [.agg (k93.enc n)] [] = some (.int .i64 (mayN n), []) := by
  have hc1 := call185 n hn
  have hc2 := call186 n hn
  simp only [k93_enc] at hc1 hc2
  rw [← mayP_eq n hw]
  unfold mayP
  cases g1 : decide ((n.f1.length : Int) > 16) with
  | true =>
    refine fn_rule (fn := fn129) rfl rfl (by simp [fn129]) ?_
    unfold fn129
    simp only [Try.f129, Option.getD_some, argEnv, List.map_nil, List.length_nil]
    simp only [go_sem, T_3, T_4, T_5, T_9, T_42, T_51, T_69, T_90, T_91, T_93, T_96, T_98, T_100, T_121, T_145, k93_enc, g1]
  | false =>
  cases g2 : decide ((n.f3.length : Int) > 8) with
  | true =>
    refine fn_rule (fn := fn129) rfl rfl (by simp [fn129]) ?_
    unfold fn129
    simp only [Try.f129, Option.getD_some, argEnv, List.map_nil, List.length_nil]
    simp only [go_sem, T_3, T_4, T_5, T_9, T_42, T_51, T_69, T_90, T_91, T_93, T_96, T_98, T_100, T_121, T_145, k93_enc, g1, g2]
  | false =>
  cases g3 : decide ((n.f4.length : Int) > 16) with
  | true =>
    refine fn_rule (fn := fn129) rfl rfl (by simp [fn129]) ?_
    unfold fn129
    simp only [Try.f129, Option.getD_some, argEnv, List.map_nil, List.length_nil]
    simp only [go_sem, T_3, T_4, T_5, T_9, T_42, T_51, T_69, T_90, T_91, T_93, T_96, T_98, T_100, T_121, T_145, k93_enc, g1, g2, g3]
  | false =>
  cases h0 : n.f0 with
  | true =>
    simp only [h0] at hc1 hc2
    cases g4 : leafB n
    all_goals
      refine fn_rule (fn := fn129) rfl rfl (by simp [fn129]) ?_
      unfold fn129
      simp only [Try.f129, Option.getD_some, argEnv, List.map_nil, List.length_nil]
      simp only [go_sem, T_3, T_4, T_5, T_9, T_42, T_51, T_69, T_90, T_91, T_93, T_96, T_98, T_100, T_121, T_145, k93_enc, h0, g1, g2, g3, hc1, g4]
  | false =>
    simp only [h0] at hc1 hc2
    cases g4 : formB n
    all_goals
      refine fn_rule (fn := fn129) rfl rfl (by simp [fn129]) ?_
      unfold fn129
      simp only [Try.f129, Option.getD_some, argEnv, List.map_nil, List.length_nil]
      simp only [go_sem, T_3, T_4, T_5, T_9, T_42, T_51, T_69, T_90, T_91, T_93, T_96, T_98, T_100, T_121, T_145, k93_enc, h0, g1, g2, g3, hc2, g4]
theorem call129 (n : S93) (hn : fewN n) (hw : wfN n) (k : Nat) : callV (LX T fns) k (.clo 129 []) [.agg (k93.enc n)] = .pure (.int .i64 (mayN n), []) := callV_plain (fn := fn129) rfl rfl rfl (lim129 n hn hw) k
end Go.Proofs.Ytfdemnefkfkghaa.R
/- Calls whose arguments are slices of objects: they are frozen, then the callee's answer is as at plain ones. -/
namespace Go.Proofs.Ytfdemnefkfkghaa.R
open Go
set_option linter.unusedVariables false
set_option linter.unusedSimpArgs false

/-- A slice of an object, looked at. -/
def fzB (p st o l : Nat) (x : Option Ob) : Option (V × Upd × List Nat) := match x with
  | some (.buf st' rows _ true) => if st' = st ∧ o + l ≤ rows.length then some (.fz ((rows.drop o).take l), [(p, some (.buf st rows true true))], [p]) else none
  | _ => none
def fzP (v : V) : Option (V × Upd × List Nat) := if v.plain = true then some (v, [], []) else none
/-- An argument, frozen: its value, what was turned, what was looked at. -/
def fzArg (h : Heap) : V → Option (V × Upd × List Nat)
  | .ms p st o l _ => fzB p st o l (h.at? p)
  | .nils => some (.fz [], [], [])
  | v => fzP v
def fz2 (x y : Option (V × Upd × List Nat)) (r : V × Upd × List Nat → Option (List V × Upd × List Nat)) : Option (List V × Upd × List Nat) := match x with
  | some v => r v
  | none => none
def fzJ (x : Option (V × Upd × List Nat)) (y : Option (List V × Upd × List Nat)) : Option (List V × Upd × List Nat) := match x, y with
  | some (v, u, l), some (r, u', l') => some (v :: r, u ++ u', l' ++ l)
  | _, _ => none
def fzArgs (h : Heap) : List V → Option (List V × Upd × List Nat)
  | [] => some ([], [], [])
  | v :: r => fzJ (fzArg h v) (fzArgs h r)

theorem fzP_frz {α : Type} {v v' : V} {u : Upd} {l : List Nat} (hx : fzP v = some (v', u, l)) (k : V → Upd → Rd α) (h : Heap) (tr : List Nat) : (frz v k).run h tr = (k v' u).run h (l ++ tr) ∧ v'.plain = true := by
  unfold fzP at hx
  split at hx
  · rename_i hp
    cases hx
    exact ⟨by rw [plain_frz k v hp]; rfl, hp⟩
  · cases hx
theorem fzArg_frz {α : Type} {h : Heap} {v v' : V} {u : Upd} {l : List Nat} (hx : fzArg h v = some (v', u, l)) (k : V → Upd → Rd α) (tr : List Nat) : (frz v k).run h tr = (k v' u).run h (l ++ tr) ∧ v'.plain = true := by
  cases v with
  | ms p st o n c =>
    simp only [fzArg, fzB] at hx
    simp only [frz, frzAll, frzG, frzGAll, ms2, msUp, frzG, ms2, msUp, Rd.run]
    cases ho : h.at? p with
    | none => rw [ho] at hx; cases hx
    | some ob =>
      rw [ho] at hx
      cases ob with
      | mp es q => cases hx
      | buf st' rows f q =>
        cases q with
        | false => cases hx
        | true =>
          simp only at hx ⊢
          split at hx
          · rename_i hc
            cases hx
            rw [if_pos hc]
            exact ⟨rfl, rfl⟩
          · cases hx
  | nils =>
    simp only [fzArg] at hx
    cases hx
    exact ⟨by simp only [frz, frzAll, frzG, frzGAll, ms2, msUp, frzG]; rfl, rfl⟩
  | _ => exact fzP_frz hx k h tr
theorem fzArgs_frz {α : Type} {h : Heap} : ∀ {l l' : List V} {u : Upd} {rs : List Nat} {m : List Bool}, fzArgs h l = some (l', u, rs) → m.all id = true → l.length ≤ m.length → ∀ (k : List V → Upd → Rd α) (tr : List Nat), (frzArgs l m k).run h tr = (k l' u).run h (rs ++ tr) ∧ V.allPlain l' = true
  | [], l', u, rs, m, hx, _, _, k, tr => by
    simp only [fzArgs] at hx
    cases hx
    exact ⟨by simp only [frzArgs]; rfl, rfl⟩
  | v :: r, l', u, rs, m, hx, hm, hl, k, tr => by
    cases m with
    | nil => simp at hl
    | cons b m =>
      simp only [List.all_cons, id_eq, Bool.and_eq_true] at hm
      obtain ⟨rfl, hm⟩ := hm
      simp only [fzArgs] at hx
      cases h1 : fzArg h v with
      | none => rw [h1] at hx; simp [fzJ] at hx
      | some x =>
        obtain ⟨v1, u1, l1⟩ := x
        cases h2 : fzArgs h r with
        | none => rw [h1, h2] at hx; simp [fzJ] at hx
        | some y =>
          obtain ⟨r2, u2, l2⟩ := y
          rw [h1, h2] at hx
          simp only [fzJ, Option.some.injEq, Prod.mk.injEq] at hx
          obtain ⟨rfl, rfl, rfl⟩ := hx
          simp only [frzArgs]
          have a := fzArg_frz h1 (fun v u => frzArgs r m fun r u' => k (v :: r) (u ++ u')) tr
          have b := fzArgs_frz h2 hm (by simpa using hl) (fun r u' => k (v1 :: r) (u1 ++ u')) (l1 ++ tr)
          refine ⟨?_, ?_⟩
          · rw [a.1, b.1, List.append_assoc]
          · simp only [V.allPlain, a.2, b.2, Bool.and_self]

noncomputable def fzBad (T : TT) (fns : FuncId → Option AFn) (g : FuncId) (n : Nat) (args : List V) (h : Heap) (tr : List Nat) : Option ((V × Upd) × List Nat) := (callV (LX T fns) n (.clo g []) args).run h tr
noncomputable def fzC (T : TT) (fns : FuncId → Option AFn) (g : FuncId) (n : Nat) (args : List V) (h : Heap) (tr : List Nat) (u : Upd) (rs : List Nat) (y : Option (V × Heap)) : Option ((V × Upd) × List Nat) := match y with
  | some (r, []) => if r.plain = true then some ((r, if r.noFz = true then [] else u), rs ++ tr) else fzBad T fns g n args h tr
  | _ => fzBad T fns g n args h tr
noncomputable def fzCall (T : TT) (fns : FuncId → Option AFn) (g : FuncId) (n : Nat) (args : List V) (h : Heap) (tr : List Nat) (x : Option (List V × Upd × List Nat)) : Option ((V × Upd) × List Nat) := match x with
  | some (args', u, rs) => fzC T fns g n args h tr u rs (lim T fns g args' [])
  | none => fzBad T fns g n args h tr

theorem callFz {T : TT} {fns : FuncId → Option AFn} (g : FuncId) (fn : AFn) (hfn : fns g = some fn) (hp : fn.pfz.all id = true) (np : Nat) (hnp : fn.pfz.length = np) (n : Nat) (args : List V) (h : Heap) (tr : List Nat) (hl : args.length ≤ np) :
    (callV (LX T fns) n (.clo g []) args).run h tr = fzCall T fns g n args h tr (fzArgs h args) := by
  subst hnp
  unfold fzCall
  split
  · rename_i args' u rs hx
    unfold fzC
    split
    · rename_i r hr
      split
      · rename_i hpl
        unfold callV
        simp only [hfn, List.append_nil]
        unfold callR
        have key := fzArgs_frz (α := V × Upd) hx hp hl (fun args u => collect 4096 (V.allIds args) [] fun obs => withR ((LX T fns).call g) n args u obs) tr
        rw [key.1]
        rw [plainAll_ids _ key.2]
        show (withR (lim T fns g) n args' u []).run h (rs ++ tr) = _
        unfold withR
        simp only [List.map_nil, upd1, List.contains_nil, Bool.not_false, List.all_nil, Bool.and_true, plainAll_re _ _ key.2, pullObs, hr, List.length_nil, Nat.le_refl, if_true]
        rw [if_pos (by simp)]
        unfold afterR
        simp only [List.length_nil, plain_re _ _ hpl, pushObs, List.isEmpty_nil, Bool.true_and, List.nil_append]
        split <;> rfl
      · rfl
    · rfl
  · rfl

section
variable {T : TT} {fns : FuncId → Option AFn} {g : FuncId} {n : Nat} {args args' : List V} {h : Heap} {tr rs : List Nat} {u : Upd} {r : V}
theorem fzCall_some : fzCall T fns g n args h tr (some (args', u, rs)) = fzC T fns g n args h tr u rs (lim T fns g args' []) := rfl
theorem fzC_some : fzC T fns g n args h tr u rs (some (r, [])) = if r.plain = true then some ((r, if r.noFz = true then [] else u), rs ++ tr) else fzBad T fns g n args h tr := rfl
theorem fzArgs_nil : fzArgs h [] = some ([], [], []) := rfl
theorem fzArgs_cons {v : V} {r : List V} : fzArgs h (v :: r) = fzJ (fzArg h v) (fzArgs h r) := rfl
theorem fzJ_some {v : V} {l l' : List Nat} {u u' : Upd} {r : List V} : fzJ (some (v, u, l)) (some (r, u', l')) = some (v :: r, u ++ u', l' ++ l) := rfl
theorem fzArg_ms {p st o l : Nat} {c : Option Nat} : fzArg h (.ms p st o l c) = fzB p st o l (h.at? p) := rfl
theorem fzArg_nils : fzArg h .nils = some (.fz [], [], []) := rfl
theorem fzArg_int {k : IntKind} {m : Int} : fzArg h (.int k m) = some (.int k m, [], []) := rfl
theorem fzArg_bool {b : Bool} : fzArg h (.bool b) = some (.bool b, [], []) := rfl
theorem fzArg_str {s : ByteArray} : fzArg h (.str s) = some (.str s, [], []) := rfl
theorem fzArg_fz {rows : List (List V)} : fzArg h (.fz rows) = some (.fz rows, [], []) := rfl
theorem fzArg_agg {cs : List V} : fzArg h (.agg cs) = if V.allPlain cs = true then some (.agg cs, [], []) else none := rfl
theorem fzB_all {p st l : Nat} {rows : List (List V)} {f : Bool} (hl : rows.length = l) : fzB p st 0 l (some (.buf st rows f true)) = some (.fz rows, [(p, some (.buf st rows true true))], [p]) := by
  subst hl
  unfold fzB
  simp
theorem nfz_int (k : IntKind) (n : Int) : V.noFz (.int k n) = true := id rfl
theorem nfz_bool (b : Bool) : V.noFz (.bool b) = true := id rfl
theorem nfz_str (s : ByteArray) : V.noFz (.str s) = true := id rfl
theorem nfz_fz (rows : List (List V)) : V.noFz (.fz rows) = false := id rfl
theorem nfz_agg (cs : List V) : V.noFz (.agg cs) = V.allNoFz cs := id rfl
theorem nfz_tup (cs : List V) : V.noFz (.tup cs) = V.allNoFz cs := id rfl
theorem nfz_nil : V.allNoFz [] = true := id rfl
theorem nfz_cons (v : V) (r : List V) : V.allNoFz (v :: r) = (V.noFz v && V.allNoFz r) := id rfl
end
attribute [go_sem] fzCall_some fzC_some fzArgs_nil fzArgs_cons fzJ_some fzArg_ms fzArg_nils fzArg_int fzArg_bool fzArg_str fzArg_fz fzArg_agg fzB_all nfz_int nfz_bool nfz_str nfz_fz nfz_agg nfz_tup nfz_nil nfz_cons
end Go.Proofs.Ytfdemnefkfkghaa.R
/- Chapter 27's laws: how deep a node is. -/
namespace Go.Proofs.Ytfdemnefkfkghaa.R
open Go Go.Proofs
set_option linter.unusedSimpArgs false
set_option linter.unusedVariables false
set_option maxRecDepth 10000
set_option maxHeartbeats 2000000

theorem lim172 (n : S93) (hn : fewN n) (hw : wfN n) : lim T fns 172 [.agg (k93.enc n)] [] = some (.int .u16 (deepN n), []) := by
  obtain ⟨_, _, h3, h4⟩ := hn
  obtain ⟨w3, w4⟩ := hw
  refine fn_rule (fn := fn172) rfl rfl (by simp [fn172]) ?_
  unfold fn172
  simp only [Try.f172, Option.getD_some, argEnv, List.map_nil, List.length_nil]
  cases h0 : n.f0 with
  | true =>
    simp only [go_sem, T_3, T_4, T_5, T_9, T_42, T_51, T_69, T_90, T_91, T_93, T_96, T_98, T_100, T_121, T_145, k93_enc, h0]
    simp [deepN, h0]
  | false =>
  simp only [go_sem, T_3, T_4, T_5, T_9, T_42, T_51, T_69, T_90, T_91, T_93, T_96, T_98, T_100, T_121, T_145, k93_enc, h0]
  refine loop_rule (ι := Nat × Int) (S := fun p => ⟨[(1, .ptr 0 0 0), (3, .int .u16 p.2), (11, .fz (n.f3.map k100.enc)), (12, .int .i64 n.f3.length), (13, .int .i64 p.1)], [some (.buf 5 [[.bool false, .fz (n.f1.map k145.enc), .fz (n.f2.map Cd.str.enc), .fz (n.f3.map k100.enc), .fz (n.f4.map k121.enc)]] false true)]⟩)
    (m := fun p => n.f3.length + 1 - p.1) (I := fun p => p.1 ≤ n.f3.length ∧ 0 ≤ p.2 ∧ p.2 ≤ 65535 ∧ deepK p.2 (n.f3.drop p.1) = deepK 0 n.f3) ?_ (0, 0) _ ⟨by simp, by simp, by simp, by simp⟩ (by kernel_rfl)
  rintro ⟨i, d⟩ ⟨hi, hd0, hd1, hd⟩
  simp only at hi hd0 hd1 hd
  by_cases hlt : i < n.f3.length
  · have hx : n.f3[i]? = some n.f3[i] := List.getElem?_eq_getElem hlt
    have hb := w3 n.f3[i] (List.getElem_mem hlt)
    rw [deepK_drop hlt] at hd
    simp only [go_sem, T_3, T_4, T_5, T_9, T_42, T_51, T_69, T_90, T_91, T_93, T_96, T_98, T_100, T_121, T_145, all100, hlt, hx, k100_enc, wrap_i64s (show i < 1000000000000000000 by omega)]
    exact ⟨(i + 1, if n.f3[i].f1 > d then n.f3[i].f1 else d), ⟨by simp only; omega, by simp only; split <;> omega, by simp only; split <;> omega, hd⟩, by simp only; omega, by kernel_rfl⟩
  rw [List.drop_eq_nil_of_le (by omega)] at hd
  have e1 : d = deepK 0 n.f3 := by rw [← hd]; rfl
  simp only [go_sem, T_3, T_4, T_5, T_9, T_42, T_51, T_69, T_90, T_91, T_93, T_96, T_98, T_100, T_121, T_145, hlt]
  refine loop_rule (ι := Nat × Int) (S := fun p => ⟨[(3, .int .u16 p.2), (23, .fz (n.f4.map k121.enc)), (24, .int .i64 n.f4.length), (25, .int .i64 p.1)], []⟩)
    (m := fun p => n.f4.length + 1 - p.1) (I := fun p => p.1 ≤ n.f4.length ∧ 0 ≤ p.2 ∧ p.2 ≤ 65535 ∧ deepM p.2 (n.f4.drop p.1) = deepM d n.f4) ?_ (0, d) _ ⟨by simp, hd0, hd1, by simp⟩ (by kernel_rfl)
  clear hlt hi
  rintro ⟨i, d2⟩ ⟨hi, hq0, hq1, hq⟩
  simp only at hi hq0 hq1 hq
  by_cases hlt : i < n.f4.length
  · have hx : n.f4[i]? = some n.f4[i] := List.getElem?_eq_getElem hlt
    have hb := w4 n.f4[i] (List.getElem_mem hlt)
    rw [deepM_drop hlt] at hq
    by_cases hk : n.f4[i].f0 = 3
    · have ek : (n.f4[i].f0 == 3) = true := by simp [hk]
      rw [if_pos hk] at hq
      simp only [go_sem, T_3, T_4, T_5, T_9, T_42, T_51, T_69, T_90, T_91, T_93, T_96, T_98, T_100, T_121, T_145, all121, hlt, hx, k121_enc, ek, wrap_i64s (show i < 1000000000000000000 by omega)]
      exact ⟨(i + 1, if n.f4[i].f4 > d2 then n.f4[i].f4 else d2), ⟨by simp only; omega, by simp only; split <;> omega, by simp only; split <;> omega, hq⟩, by simp only; omega, by kernel_rfl⟩
    · have ek : (n.f4[i].f0 == 3) = false := by simp [hk]
      rw [if_neg hk] at hq
      simp only [go_sem, T_3, T_4, T_5, T_9, T_42, T_51, T_69, T_90, T_91, T_93, T_96, T_98, T_100, T_121, T_145, all121, hlt, hx, k121_enc, ek, wrap_i64s (show i < 1000000000000000000 by omega)]
      exact ⟨(i + 1, d2), ⟨by simp only; omega, hq0, hq1, hq⟩, by simp only; omega, by kernel_rfl⟩
  · rw [List.drop_eq_nil_of_le (by omega)] at hq
    have e2 : d2 = deepM (deepK 0 n.f3) n.f4 := by rw [← e1, ← hq]; rfl
    have hN : deepN n = if d2 ≥ 65535 then 65535 else d2 + 1 := by rw [e2]; simp [deepN, h0]
    have hu : IntKind.u16.wrap ((if 65534 < d2 then 65534 else d2) + 1) = deepN n := by
      rw [hN]
      simp [IntKind.wrap, IntKind.signed, IntKind.bits]
      split <;> split <;> omega
    simp only [go_sem, T_3, T_4, T_5, T_9, T_42, T_51, T_69, T_90, T_91, T_93, T_96, T_98, T_100, T_121, T_145, hlt, hu]
theorem call172 (n : S93) (hn : fewN n) (hw : wfN n) (k : Nat) : callV (LX T fns) k (.clo 172 []) [.agg (k93.enc n)] = .pure (.int .u16 (deepN n), []) := callV_plain (fn := fn172) rfl rfl rfl (lim172 n hn hw) k
end Go.Proofs.Ytfdemnefkfkghaa.R
/- Chapter 27's laws: slices and calls. (printed by mk27.py out of R31a .. R31i) -/
namespace Go.Proofs.Ytfdemnefkfkghaa.R
open Go Go.Proofs
set_option linter.unusedSimpArgs false
set_option linter.unusedVariables false
set_option maxRecDepth 10000
set_option maxHeartbeats 4000000

attribute [go_sem] sliceR List.length_map cutS optNat Option.map_none Option.isSome_none Option.isNone_none Option.isNone_some Bool.and_true Bool.false_and Bool.and_false List.map_cons List.map_nil Nat.sub_zero Nat.zero_add Nat.add_zero Nat.sub_self capB Int.toNat_natCast
theorem one_cast : ((1 : Nat) : Int) = 1 := rfl
theorem wrap_add1 {n : Nat} (h : n < 1000000000000000000) : IntKind.i64.wrap ((n : Int) + ((1 : Nat) : Int)) = ((n + 1 : Nat) : Int) := wrap_i64s h
theorem wrap_sub {a b : Nat} (h : a < 1000000000000000000) (hb : b ≤ a) : IntKind.i64.wrap ((a : Int) - (b : Int)) = ((a - b : Nat) : Int) := by
  rw [wrap_i64 (by omega) (by omega)]
  omega
theorem cast_eq0 {n : Nat} : (((n : Nat) : Int) == ((0 : Nat) : Int)) = decide (n = 0) := by
  rw [Bool.eq_iff_iff]
  simp
theorem cast_beq {a b : Nat} : (((a : Nat) : Int) == ((b : Nat) : Int)) = decide (a = b) := by
  rw [Bool.eq_iff_iff]
  simp only [beq_iff_eq, decide_eq_true_eq]
  omega
theorem cast_lt {a b : Nat} : ((a : Int) < (b : Int)) = (a < b) := by simp
theorem append_grow {ti : TI} {n i st l c : Nat} {new : List (List V)} {np : Bool} {h : Heap} {tr : List Nat} {st' : Nat} {rows : List (List V)} {f p : Bool} (hat : h.at? i = some (.buf st' rows f p)) (h0 : new.length ≠ 0) (h1 : st = ti.size) (h2 : st' = ti.size) (h3 : l ≤ rows.length) (h4 : (l + new.length) * ti.bytes ≤ 140737488355328) (h5 : l + new.length ≤ 140737488355328) (h6 : c < l + new.length) :
    (appendR ti n (.ms i st 0 l (some c)) new np).run h tr = some ((.ms n st 0 (l + new.length) none, [(n, some (.buf st (rows.take l ++ new) false (p && np)))]), i :: tr) := by
  subst h1
  subst h2
  unfold appendR
  simp only [h0, if_false, if_true, Rd.run, hat]
  rw [if_pos ⟨trivial, by omega, h4, h5⟩]
  unfold appendM
  simp only
  rw [if_pos h6]
  simp [Rd.run]
theorem copy_fz {ti : TI} {i st o n : Nat} {c : Option Nat} {new : List (List V)} {h : Heap} {tr : List Nat} {st' : Nat} {rows : List (List V)} {p : Bool} (hat : h.at? i = some (.buf st' rows false p)) (h1 : st = ti.size) (h2 : st' = ti.size) (ha : (new.all fun r => r.length == ti.size) = true) (h3 : o + n ≤ rows.length) :
    (copyR ti (.ms i st o n c) (.fz new)).run h tr = some ((.int .i64 (min new.length n : Nat), [(i, some (.buf st (rows.take o ++ new.take n ++ rows.drop (o + min new.length n)) false p))]), i :: tr) := by
  subst h1
  subst h2
  unfold copyR
  simp only [if_true, rows?, ha, Rd.run, hat]
  rw [if_pos ⟨trivial, h3⟩]
  simp [Rd.run]
theorem copy_ms {ti : TI} {i st o n j o2 n2 : Nat} {c c2 : Option Nat} {h : Heap} {tr : List Nat} {st' st2 st2' : Nat} {rows rows2 : List (List V)} {f2 p p2 : Bool} (hat : h.at? i = some (.buf st' rows false p)) (h1 : st = ti.size) (h2 : st' = ti.size) (h3 : o + n ≤ rows.length)
    (hat2 : h.at? j = some (.buf st2' rows2 f2 p2)) (h4 : st2 = ti.size) (h5 : st2' = ti.size) (h6 : o2 + n2 ≤ rows2.length) :
    (copyR ti (.ms i st o n c) (.ms j st2 o2 n2 c2)).run h tr = some ((.int .i64 (min n2 n : Nat), [(i, some (.buf st (rows.take o ++ ((rows2.drop o2).take n2).take n ++ rows.drop (o + min n2 n)) false (p && p2)))]), i :: j :: tr) := by
  subst h1
  subst h2
  subst h4
  subst h5
  have hl : ((rows2.drop o2).take n2).length = n2 := by simp; omega
  unfold copyR
  simp only [if_true, rows?, Rd.run, hat2]
  rw [if_pos ⟨trivial, h6⟩]
  simp only [Rd.run, hat]
  rw [if_pos ⟨trivial, h3⟩]
  simp [Rd.run, hl]
theorem natOf_lit (k : IntKind) (n : Nat) : natOf (.int k (n : Int)) = some n := natOf_cast k n
/-- What slices.Insert does: zeros behind, the new one, the rest. -/
theorem ins_facts {ti : TI} {z kr : List V} {rows : List (List V)} {n i : Nat} {f : Bool} (hkr : kr.length = ti.size) (hl : rows.length = n) (hn : n < 1000000000000) (hi : i < n) (hb : ti.bytes ≤ 100) :
    (appendR ti 1 (.ms 0 ti.size 0 i (some n)) (List.replicate (n + 1 - i) z) true).run [some (.buf ti.size rows f true)] [] = some ((.ms 1 ti.size 0 (n + 1) none, [(1, some (.buf ti.size (rows.take i ++ List.replicate (n + 1 - i) z) false true))]), [0]) ∧
    (copyR ti (.ms 1 ti.size i (n + 1 - i) none) (.fz [kr])).run [some (.buf ti.size rows f true), some (.buf ti.size (rows.take i ++ List.replicate (n + 1 - i) z) false true)] [] = some ((.int .i64 ((min 1 (n + 1 - i) : Nat) : Int), [(1, some (.buf ti.size (rows.take i ++ [kr] ++ List.replicate (n - i) z) false true))]), [1]) ∧
    ∀ rest : Heap, (copyR ti (.ms 1 ti.size (i + 1) (n + 1 - (i + 1)) none) (.ms 0 ti.size i (n - i) (some (n - i)))).run (some (.buf ti.size rows f true) :: some (.buf ti.size (rows.take i ++ [kr] ++ List.replicate (n - i) z) false true) :: rest) [] = some ((.int .i64 ((min (n - i) (n + 1 - (i + 1)) : Nat) : Int), [(1, some (.buf ti.size (rows.take i ++ [kr] ++ rows.drop i) false true))]), [1, 0]) := by
  have hlt : (rows.take i).length = i := by simp; omega
  have hm : (n + 1) * ti.bytes ≤ (n + 1) * 100 := Nat.mul_le_mul_left _ hb
  refine ⟨?_, ?_, ?_⟩
  · have ha := append_grow (ti := ti) (n := 1) (i := 0) (st := ti.size) (l := i) (c := n) (new := List.replicate (n + 1 - i) z) (np := true) (h := [some (.buf ti.size rows f true)]) (tr := []) rfl (by simp; omega) rfl rfl (by omega) (by rw [List.length_replicate, show i + (n + 1 - i) = n + 1 by omega]; omega) (by simp; omega) (by simp; omega)
    rw [List.length_replicate, show i + (n + 1 - i) = n + 1 by omega] at ha
    exact ha
  · have hA : (rows.take i ++ List.replicate (n + 1 - i) z).length = n + 1 := by simp; omega
    have hc := copy_fz (ti := ti) (i := 1) (st := ti.size) (o := i) (n := n + 1 - i) (c := none) (new := [kr]) (tr := []) (h := [some (.buf ti.size rows f true), some (.buf ti.size (rows.take i ++ List.replicate (n + 1 - i) z) false true)]) rfl rfl rfl (by simp [hkr]) (by omega)
    rw [hc]
    have e1 : List.take i (rows.take i ++ List.replicate (n + 1 - i) z) = rows.take i := by rw [List.take_left' hlt]
    have e2 : List.drop (i + min 1 (n + 1 - i)) (rows.take i ++ List.replicate (n + 1 - i) z) = List.replicate (n - i) z := by
      rw [show i + min 1 (n + 1 - i) = i + 1 by omega, List.drop_append, hlt, List.drop_eq_nil_of_le (by omega), List.nil_append, List.drop_replicate]
      congr 1
      omega
    rw [e1, show [kr].length = 1 from rfl, e2, show List.take (n + 1 - i) [kr] = [kr] from List.take_of_length_le (by simp; omega)]
  · intro rest
    have hB : (rows.take i ++ [kr] ++ List.replicate (n - i) z).length = n + 1 := by simp; omega
    have hc := copy_ms (ti := ti) (i := 1) (st := ti.size) (o := i + 1) (n := n + 1 - (i + 1)) (c := none) (j := 0) (st2 := ti.size) (o2 := i) (n2 := n - i) (c2 := some (n - i)) (tr := []) (h := some (.buf ti.size rows f true) :: some (.buf ti.size (rows.take i ++ [kr] ++ List.replicate (n - i) z) false true) :: rest) rfl rfl rfl (by omega) rfl rfl rfl (by omega)
    rw [hc]
    have e3 : List.take (i + 1) (rows.take i ++ [kr] ++ List.replicate (n - i) z) = rows.take i ++ [kr] := by rw [List.take_left' (by simp; omega)]
    have e4 : List.drop (i + 1 + min (n - i) (n + 1 - (i + 1))) (rows.take i ++ [kr] ++ List.replicate (n - i) z) = [] := List.drop_eq_nil_of_le (by omega)
    rw [e3, e4, show ((rows.drop i).take (n - i)).take (n + 1 - (i + 1)) = rows.drop i by rw [List.take_of_length_le (by simp; omega), List.take_of_length_le (by simp; omega)], List.append_nil]
    rfl
theorem nan_no (a : ByteArray) : (!(a.toList == a.toList)) = false := by simp
theorem wrap_u64 {n : Nat} (h : n < 1000000000000000000) : IntKind.u64.wrap (n : Int) = n := by
  simp [IntKind.wrap, IntKind.signed, IntKind.bits]
  omega
theorem wrap_add2 {a b : Nat} (h : a + b < 1000000000000000000) : IntKind.i64.wrap ((a : Int) + (b : Int)) = ((a + b : Nat) : Int) := by
  rw [wrap_i64 (by omega) (by omega)]
  omega
theorem wrap_nat {n : Nat} (h : n < 1000000000000000000) : IntKind.i64.wrap (n : Int) = n := wrap_i64 (by omega) (by omega)
theorem half {i j : Nat} (h : i + j < 1000000000000000) : (IntKind.u64.wrap (IntKind.i64.wrap ((i : Int) + (j : Int)))).fdiv (2 ^ min (Int.toNat 1) 64) = (((i + j) / 2 : Nat) : Int) := by
  rw [wrap_add2 (by omega), wrap_u64 (by omega), show (2 : Int) ^ min (Int.toNat 1) 64 = 2 from rfl]
  rw [Int.fdiv_eq_ediv_of_nonneg _ (by omega)]
  omega
/-- A call whose arguments are plain once they are frozen, and such an answer. -/
theorem callV_leaf {T : TT} {fns : FuncId → Option AFn} {g : FuncId} {fn : AFn} (hfn : fns g = some fn) {args caps args' : List V} {u : Upd} {r : V} {h : Heap} {tr tr' : List Nat} {n : Nat} (hz : ∀ K : List V → Upd → Rd (V × Upd), (frzArgs (args ++ caps) fn.pfz K).run h tr = (K args' u).run h tr')
    (ha : V.allPlain args' = true) (hr : r.plain = true) (hf : r.noFz = true) (hl : lim T fns g args' [] = some (r, [])) : (callV (LX T fns) n (.clo g caps) args).run h tr = some ((r, []), tr') := by
  unfold callV
  simp only [hfn]
  unfold callR
  rw [hz, plainAll_ids _ ha]
  show (withR (lim T fns g) n args' u []).run h tr' = _
  unfold withR
  simp only [List.map_nil, upd1, List.contains_nil, Bool.not_false, List.all_nil, Bool.and_true, plainAll_re _ _ ha, pullObs, hl, List.length_nil, Nat.le_refl, if_true]
  rw [if_pos (by simp)]
  unfold afterR
  simp [plain_re _ _ hr, pushObs, hf, Rd.run]
def insAt {α : Type} (i : Nat) (x : α) (l : List α) : List α := l.take i ++ [x] ++ l.drop i
/-- A call that is handed no object, and answers with new ones. -/
theorem callV_newf {T : TT} {fns : FuncId → Option AFn} {g : FuncId} {fn : AFn} (hfn : fns g = some fn) {args caps args' : List V} {u us : Upd} {r r' : V} {H : Heap} {h : Heap} {tr tr' : List Nat} {n : Nat} (hz : ∀ K : List V → Upd → Rd (V × Upd), (frzArgs (args ++ caps) fn.pfz K).run h tr = (K args' u).run h tr')
    (ha : V.allPlain args' = true) (hl : lim T fns g args' [] = some (r, H)) (hr : V.re (back [] n H.length) r = some r') (hp : pushObs (back [] n H.length) H 0 = some us) (he : H.isEmpty = false) : (callV (LX T fns) n (.clo g caps) args).run h tr = some ((r', us ++ u), tr') := by
  unfold callV
  simp only [hfn]
  unfold callR
  rw [hz, plainAll_ids _ ha]
  show (withR (lim T fns g) n args' u []).run h tr' = _
  unfold withR
  simp only [List.map_nil, upd1, List.contains_nil, Bool.not_false, List.all_nil, Bool.and_true, plainAll_re _ _ ha, pullObs, hl, List.length_nil, Nat.zero_le, if_true]
  rw [if_pos (by simp)]
  unfold afterR
  simp [hr, hp, he, Rd.run]
/-- A call that is handed one object, which leads to no other one. -/
theorem callV_one {T : TT} {fns : FuncId → Option AFn} {g : FuncId} {fn : AFn} (hfn : fns g = some fn) {args caps args' args2 : List V} {u us : Upd} {r r' : V} {o : Ob} {H : Heap} {h : Heap} {tr tr' : List Nat} {n p : Nat} (hz : ∀ K : List V → Upd → Rd (V × Upd), (frzArgs (args ++ caps) fn.pfz K).run h tr = (K args' u).run h tr')
    (hat : h.at? p = some o) (hid : V.allIds args' = [p]) (ho : o.ids = []) (hu : (u.all fun q => !([p].contains q.1)) = true) (hpn : p < n) (h2 : V.reAll (idx [p]) args' = some args2) (h3 : o.re (idx [p]) = some o) (hl : lim T fns g args2 [o] = some (r, H)) (h1 : 1 ≤ H.length)
    (hr : V.re (back [p] n H.length) r = some r') (hp : pushObs (back [p] n H.length) H 0 = some us) : (callV (LX T fns) n (.clo g caps) args).run h tr = some ((r', us ++ u), p :: tr') := by
  unfold callV
  simp only [hfn]
  unfold callR
  rw [hz, hid]
  simp only [collect, List.map_nil, List.contains_nil, Bool.false_eq_true, if_false, Rd.run, hat, ho, List.nil_append, List.append_nil]
  unfold withR
  simp only [List.map_cons, List.map_nil, upd1, hu, List.all_cons, List.all_nil, hpn, decide_true, Bool.and_self, if_true, h2, pullObs, h3, Option.bind_some, Option.map_some, hl, List.length_cons, List.length_nil, Nat.zero_add, h1]
  unfold afterR
  simp only [hr, hp, List.isEmpty_cons, Bool.false_and, Bool.false_eq_true, if_false, Rd.run]
theorem insAt_map {α β : Type} {f : α → β} {i : Nat} {x : α} {l : List α} : insAt i (f x) (l.map f) = (insAt i x l).map f := by
  unfold insAt
  simp only [List.map_append, List.map_cons, List.map_nil, List.map_take, List.map_drop]
end Go.Proofs.Ytfdemnefkfkghaa.R
/- Numbers in order: where one stands among those that rise. -/
namespace Go.Proofs.Ytfdemnefkfkghaa.R
open Go
set_option linter.unusedVariables false
set_option linter.unusedSimpArgs false

def ltI (a b : Int) : Bool := decide (a < b)
theorem ltI_iff {a b : Int} : ltI a b = true ↔ a < b := decide_eq_true_iff
theorem ltI_no {a b : Int} : ltI a b = false ↔ ¬ a < b := decide_eq_false_iff_not
def risesI : List Int → Bool
  | a :: b :: r => ltI a b && risesI (b :: r)
  | _ => true
theorem risesI_tail {a : Int} {r : List Int} (h : risesI (a :: r) = true) : risesI r = true := by
  cases r with
  | nil => rfl
  | cons b r => simp only [risesI, Bool.and_eq_true] at h; exact h.2
theorem risesI_lt : ∀ {r : List Int} {a : Int}, risesI (a :: r) = true → ∀ x ∈ r, a < x
  | [], a, _, x, hx => by simp at hx
  | b :: r, a, h, x, hx => by
    simp only [risesI, Bool.and_eq_true, ltI_iff] at h
    rcases List.mem_cons.1 hx with rfl | hx
    · exact h.1
    · exact Int.lt_trans h.1 (risesI_lt h.2 x hx)
theorem risesI_cons {a : Int} {r : List Int} (h : risesI r = true) (k : ∀ x ∈ r, a < x) : risesI (a :: r) = true := by
  cases r with
  | nil => rfl
  | cons b r => simp only [risesI, Bool.and_eq_true, ltI_iff]; exact ⟨k b (.head _), h⟩
def posI (k : Int) : List Int → Nat
  | [] => 0
  | x :: r => if ltI x k = true then posI k r + 1 else 0
theorem posI_le (k : Int) : ∀ l : List Int, posI k l ≤ l.length
  | [] => Nat.le_refl _
  | x :: r => by
    have := posI_le k r
    simp only [posI, List.length_cons]
    split <;> omega
theorem posI_lt {k : Int} : ∀ {l : List Int}, risesI l = true → ∀ {h : Nat} (hh : h < l.length), ltI l[h] k = decide (h < posI k l)
  | [], _, h, hh => by simp at hh
  | x :: r, hr, h, hh => by
    simp only [posI]
    cases h with
    | zero =>
      simp only [List.getElem_cons_zero]
      split
      · rename_i e; rw [e]; simp
      · rename_i e; simp at e; rw [e]; simp
    | succ h =>
      simp only [List.getElem_cons_succ]
      split
      · rename_i e
        rw [posI_lt (risesI_tail hr) (by simpa using hh)]
        simp
      · rename_i e
        have hh' : h < r.length := by simpa using hh
        have h1 := risesI_lt hr _ (List.getElem_mem hh')
        rw [ltI_iff] at e
        rw [ltI_no.2 (by omega)]
        simp
def hasI (k : Int) (l : List Int) : Bool := match l[posI k l]? with
  | some x => decide (x = k)
  | none => false
theorem hasI_get {k : Int} {ks : List Int} (h : posI k ks < ks.length) : hasI k ks = decide (ks[posI k ks] = k) := by
  unfold hasI
  rw [List.getElem?_eq_getElem h]
theorem hasI_end {k : Int} {ks : List Int} (h : ks.length ≤ posI k ks) : hasI k ks = false := by
  unfold hasI
  rw [List.getElem?_eq_none h]
theorem hasI_lt {k : Int} {ks : List Int} (h : hasI k ks = true) : posI k ks < ks.length := by
  rcases Nat.lt_or_ge (posI k ks) ks.length with h1 | h1
  · exact h1
  · rw [hasI_end h1] at h; cases h
def gtI {α : Type} (z : α) (k : Int) (ks : List Int) (vs : List α) : α := if hasI k ks = true then (vs[posI k ks]?).getD z else z

section
variable {β : Type}
def lookI (k : Int) : List Int → List β → Option β
  | x :: r, v :: s => if x = k then some v else lookI k r s
  | _, _ => none
theorem lookI_gt {k : Int} : ∀ {ks : List Int} {vs : List β}, (∀ x ∈ ks, k < x) → lookI k ks vs = none
  | [], _, _ => by simp [lookI]
  | x :: r, [], _ => by simp [lookI]
  | x :: r, v :: s, h => by
    have h1 : ¬ x = k := fun e => by have := h x (.head _); omega
    simp only [lookI, h1, if_false]
    exact lookI_gt fun y hy => h y (.tail _ hy)
theorem posI_here {k x : Int} {r : List Int} (h : ¬ x < k) : posI k (x :: r) = 0 := by simp only [posI]; rw [if_neg (by rw [ltI_iff]; exact h)]
theorem posI_next {k x : Int} {r : List Int} (h : x < k) : posI k (x :: r) = posI k r + 1 := by simp only [posI]; rw [if_pos (ltI_iff.2 h)]
theorem hasI_here {k x : Int} {r : List Int} (h : ¬ x < k) : hasI k (x :: r) = decide (x = k) := by
  unfold hasI
  rw [posI_here h]
  rfl
theorem hasI_next {k x : Int} {r : List Int} (h : x < k) : hasI k (x :: r) = hasI k r := by
  unfold hasI
  rw [posI_next h]
  rfl
theorem lookI_get {k : Int} : ∀ {ks : List Int} {vs : List β}, risesI ks = true → vs.length = ks.length → lookI k ks vs = if hasI k ks = true then vs[posI k ks]? else none
  | [], vs, _, _ => by simp [lookI, hasI]
  | x :: r, [], _, h => by simp at h
  | x :: r, v :: s, hr, h => by
    simp only [lookI]
    by_cases h1 : x < k
    · rw [if_neg (by omega), hasI_next h1, posI_next h1, lookI_get (risesI_tail hr) (by simpa using h)]
      rfl
    · rw [hasI_here h1, posI_here h1]
      by_cases h2 : x = k
      · simp [h2]
      · simp [h2, lookI_gt (vs := s) fun y hy => (by have := risesI_lt hr y hy; omega : k < y)]
theorem lookI_has {k : Int} {ks : List Int} {vs : List β} (hr : risesI ks = true) (hl : vs.length = ks.length) : hasI k ks = (lookI k ks vs).isSome := by
  rw [lookI_get hr hl]
  cases h : hasI k ks with
  | false => rfl
  | true =>
    have : posI k ks < vs.length := by rw [hl]; exact hasI_lt h
    rw [if_pos rfl, List.getElem?_eq_getElem this]
    rfl
theorem gtI_look {z : β} {k : Int} {ks : List Int} {vs : List β} (hr : risesI ks = true) (hl : vs.length = ks.length) : gtI z k ks vs = (lookI k ks vs).getD z := by
  unfold gtI
  rw [lookI_get hr hl]
  cases h : hasI k ks with
  | true => rw [if_pos rfl, if_pos rfl]
  | false => simp
theorem lookI_set {k j : Int} {c : β} : ∀ {ks : List Int} {vs : List β}, risesI ks = true → vs.length = ks.length → hasI k ks = true → lookI j ks (vs.set (posI k ks) c) = if k = j then some c else lookI j ks vs
  | [], vs, _, _, hb => by simp [hasI] at hb
  | x :: r, [], _, h, _ => by simp at h
  | x :: r, v :: s, hr, h, hb => by
    by_cases h1 : x < k
    · rw [hasI_next h1] at hb
      rw [posI_next h1]
      simp only [List.set_cons_succ, lookI]
      rw [lookI_set (risesI_tail hr) (by simpa using h) hb]
      by_cases hx : x = j
      · have : ¬ k = j := by omega
        simp [hx, this]
      · simp [hx]
    · rw [hasI_here h1] at hb
      have hb : x = k := by simpa using hb
      subst hb
      rw [posI_here h1]
      simp only [List.set_cons_zero, lookI]
      split <;> rfl
theorem insI0 {α : Type} (x : α) (l : List α) : l.take 0 ++ [x] ++ l.drop 0 = x :: l := by simp
theorem insIS {α : Type} (i : Nat) (x y : α) (l : List α) : (y :: l).take (i + 1) ++ [x] ++ (y :: l).drop (i + 1) = y :: (l.take i ++ [x] ++ l.drop i) := by simp
theorem lookI_ins {k j : Int} {c : β} : ∀ {ks : List Int} {vs : List β}, risesI ks = true → vs.length = ks.length → hasI k ks = false →
    lookI j (ks.take (posI k ks) ++ [k] ++ ks.drop (posI k ks)) (vs.take (posI k ks) ++ [c] ++ vs.drop (posI k ks)) = if k = j then some c else lookI j ks vs
  | [], vs, _, h, _ => by
    obtain rfl : vs = [] := List.eq_nil_of_length_eq_zero (by simpa using h)
    simp [posI, lookI]
  | x :: r, [], _, h, _ => by simp at h
  | x :: r, v :: s, hr, h, hb => by
    by_cases h1 : x < k
    · rw [hasI_next h1] at hb
      rw [posI_next h1, insIS, insIS]
      simp only [lookI]
      rw [lookI_ins (risesI_tail hr) (by simpa using h) hb]
      by_cases hx : x = j
      · have : ¬ k = j := by omega
        simp [hx, this]
      · simp [hx]
    · rw [posI_here h1, insI0, insI0]
      simp only [lookI]
theorem insI_mem {α : Type} {i : Nat} {x y : α} {l : List α} (h : y ∈ l.take i ++ [x] ++ l.drop i) : y = x ∨ y ∈ l := by
  simp only [List.mem_append, List.mem_singleton] at h
  rcases h with (h | h) | h
  · exact .inr (List.mem_of_mem_take h)
  · exact .inl h
  · exact .inr (List.mem_of_mem_drop h)
theorem risesI_ins {k : Int} : ∀ {l : List Int}, risesI l = true → hasI k l = false → risesI (l.take (posI k l) ++ [k] ++ l.drop (posI k l)) = true
  | [], _, _ => rfl
  | x :: r, hr, hb => by
    by_cases h1 : x < k
    · rw [hasI_next h1] at hb
      rw [posI_next h1, insIS]
      refine risesI_cons (risesI_ins (risesI_tail hr) hb) fun y hy => ?_
      rcases insI_mem hy with rfl | hy
      · exact h1
      · exact risesI_lt hr y hy
    · rw [hasI_here h1] at hb
      have hb : ¬ x = k := by simpa using hb
      rw [posI_here h1, insI0]
      refine risesI_cons hr fun y hy => ?_
      rcases List.mem_cons.1 hy with rfl | hy
      · omega
      · have := risesI_lt hr y hy
        omega
end
end Go.Proofs.Ytfdemnefkfkghaa.R
/- Chapter 27's laws: a map of numbers to numbers. (printed by mk27.py out of R31a .. R31i) -/
namespace Go.Proofs.Ytfdemnefkfkghaa.R
open Go Go.Proofs
set_option linter.unusedSimpArgs false
set_option linter.unusedVariables false
set_option maxRecDepth 10000
set_option maxHeartbeats 4000000

theorem nanU (a : Int) : (a != a) = false := by simp
theorem lim216_lt (n i : Nat) (kr : List V) (rows : List (List V)) (f : Bool) (hk : kr.length = 1) (hl : rows.length = n) (hn : n < 1000000000000) (hi : i < n) : lim T fns 216 [.ms 0 1 0 n (some n), .int .i64 i, .fz [kr]] [.buf 1 rows f true] =
    some (.ms 1 1 0 (n + 1) none, [some (.buf 1 rows f true), some (.buf 1 (rows.take i ++ [kr] ++ rows.drop i) false true)]) := by
  refine fn_rule (fn := fn216) rfl rfl (by simp [fn216]) ?_
  unfold fn216
  simp only [Try.f216, Option.getD_some, argEnv, List.map_nil, List.length_nil]
  have hi' : i ≤ n := Nat.le_of_lt hi
  have hc1 : (0 : Int) ≤ ((n + 1 - i : Nat) : Int) ∧ (n + 1 - i) * 4 ≤ 140737488355328 ∧ ((n + 1 - i : Nat) : Int) ≤ 140737488355328 := ⟨by omega, by omega, by omega⟩
  obtain ⟨f1, f2, f3⟩ := ins_facts (ti := ⟨.int .u32, 1, 4, .int .u32 0⟩) (z := [.int .u32 0]) (kr := kr) (f := f) hk hl hn hi (by decide)
  simp only at f1 f2 f3
  simp only [go_sem, T_3, T_4, T_42, T_76, Nat.le_refl, Nat.zero_le, hi, hi', hl, cast_eq0, cast_beq, wrap_add1 (show n < 1000000000000000000 by omega), wrap_add1 (show i < 1000000000000000000 by omega), wrap_sub (show n + 1 < 1000000000000000000 by omega) (show i ≤ n + 1 by omega), natOf_lit, show ¬ i = n by omega, hc1, f1, f2, f3, show i ≤ n + 1 by omega, show i + 1 ≤ n + 1 by omega, hk]
  repeat (refine ⟨by kernel_rfl, ?_⟩)
  show _ = _
  kernel_rfl
theorem lim216_eq (n : Nat) (kr : List V) (rows : List (List V)) (f : Bool) (hk : kr.length = 1) (hl : rows.length = n) (hn : n < 1000000000000) : lim T fns 216 [.ms 0 1 0 n (some n), .int .i64 n, .fz [kr]] [.buf 1 rows f true] =
    some (.ms 1 1 0 (n + 1) none, [some (.buf 1 rows f true), some (.buf 1 (rows.take n ++ [kr]) false true)]) := by
  refine fn_rule (fn := fn216) rfl rfl (by simp [fn216]) ?_
  unfold fn216
  simp only [Try.f216, Option.getD_some, argEnv, List.map_nil, List.length_nil]
  have ha := append_grow (ti := ⟨.int .u32, 1, 4, .int .u32 0⟩) (n := 1) (i := 0) (st := 1) (l := n) (c := n) (new := [kr]) (np := true) (h := [some (.buf 1 rows f true)]) (tr := []) rfl (by simp) rfl rfl (by omega) (by simp; omega) (by simp; omega) (by simp)
  simp only [List.length_cons, List.length_nil, Nat.zero_add, Bool.and_self] at ha
  simp only [go_sem, T_3, T_4, T_42, T_76, Nat.le_refl, Nat.zero_le, hl, cast_eq0, cast_beq, natOf_lit, ha, hk]
  repeat (refine ⟨by kernel_rfl, ?_⟩)
  show _ = _
  kernel_rfl
theorem lim216 (n i : Nat) (kr : List V) (rows : List (List V)) (f : Bool) (hk : kr.length = 1) (hl : rows.length = n) (hn : n < 1000000000000) (hi : i ≤ n) : lim T fns 216 [.ms 0 1 0 n (some n), .int .i64 i, .fz [kr]] [.buf 1 rows f true] =
    some (.ms 1 1 0 (n + 1) none, [some (.buf 1 rows f true), some (.buf 1 (rows.take i ++ [kr] ++ rows.drop i) false true)]) := by
  rcases Nat.lt_or_ge i n with h | h
  · exact lim216_lt n i kr rows f hk hl hn h
  · obtain rfl : i = n := by omega
    rw [lim216_eq i kr rows f hk hl hn, List.drop_eq_nil_of_le (by omega), List.append_nil]
theorem lim217 (n : Nat) (rows : List (List V)) (f : Bool) (hn : n < 1000000000000) : lim T fns 217 [.ms 0 1 0 n none] [.buf 1 rows f true] = some (.ms 0 1 0 n (some n), [some (.buf 1 rows f true)]) := by
  refine fn_rule (fn := fn217) rfl rfl (by simp [fn217]) ?_
  unfold fn217
  simp only [Try.f217, Option.getD_some, argEnv, List.map_nil, List.length_nil]
  simp only [go_sem, T_42, T_76, Nat.le_refl, Nat.zero_le]
  show _ = _
  kernel_rfl
theorem lim176 (a : Int) : lim T fns 176 [.int .u32 a] [] = some (.bool false, []) := by
  refine fn_rule (fn := fn176) rfl rfl (by simp [fn176]) ?_
  unfold fn176
  simp only [Try.f176, Option.getD_some, argEnv, List.map_nil, List.length_nil]
  simp only [go_sem, T_42, nanU]
theorem call176 (a : Int) (n : Nat) : callV (LX T fns) n (.clo 176 []) [.int .u32 a] = .pure (.bool false, []) := callV_plain (fn := fn176) rfl rfl rfl (lim176 a) n
theorem lim203 (a : Int) : lim T fns 203 [.int .u32 a] [] = some (.bool false, []) := by
  refine fn_rule (fn := fn203) rfl rfl (by simp [fn203]) ?_
  unfold fn203
  simp only [Try.f203, Option.getD_some, argEnv, List.map_nil, List.length_nil]
  simp only [go_sem, T_42, nanU]
theorem call203 (a : Int) (n : Nat) : callV (LX T fns) n (.clo 203 []) [.int .u32 a] = .pure (.bool false, []) := callV_plain (fn := fn203) rfl rfl rfl (lim203 a) n
theorem lim175 (a b : Int) : lim T fns 175 [.int .u32 a, .int .u32 b] [] = some (.bool (ltI a b), []) := by
  refine fn_rule (fn := fn175) rfl rfl (by simp [fn175]) ?_
  unfold fn175
  simp only [Try.f175, Option.getD_some, argEnv, List.map_nil, List.length_nil]
  have hl : decide (a < b) = ltI a b := rfl
  simp only [go_sem, T_4, T_42, call203, hl]
theorem call175 (a b : Int) (n : Nat) : callV (LX T fns) n (.clo 175 []) [.int .u32 a, .int .u32 b] = .pure (.bool (ltI a b), []) := callV_plain (fn := fn175) rfl rfl rfl (lim175 a b) n
theorem lim121 (k : Int) (ks : List Int) (hr : risesI ks = true) (hl : ks.length < 1000000000000) : lim T fns 121 [.fz (ks.map (Cd.int .u32).enc), .int .u32 k] [] = some (.tup [.int .i64 (posI k ks), .bool (hasI k ks)], []) := by
  refine fn_rule (fn := fn121) rfl rfl (by simp [fn121]) ?_
  unfold fn121
  simp only [Try.f121, Option.getD_some, argEnv, List.map_nil, List.length_nil]
  simp only [go_sem, T_3, T_42, T_76, T_234]
  refine loop_rule (ι := Nat × Nat) (S := fun p => ⟨[(0, .fz (ks.map (Cd.int .u32).enc)), (1, .int .u32 k), (6, .int .i64 ks.length), (7, .int .i64 p.1), (8, .int .i64 p.2)], []⟩) (m := fun p => p.2 - p.1)
    (I := fun p => p.1 ≤ posI k ks ∧ posI k ks ≤ p.2 ∧ p.2 ≤ ks.length) ?_ (0, ks.length) _ ⟨by simp, posI_le k ks, Nat.le_refl _⟩ (by kernel_rfl)
  rintro ⟨i, j⟩ ⟨h1, h2, h3⟩
  simp only at h1 h2 h3
  by_cases hlt : i < j
  · have hm : (i + j) / 2 < ks.length := by omega
    have hx : ks[(i + j) / 2]? = some ks[(i + j) / 2] := List.getElem?_eq_getElem hm
    have hp := posI_lt (k := k) hr hm
    simp only [go_sem, T_3, T_42, T_76, T_234, hlt, show (0 : Int) ≤ 1 by decide, half (show i + j < 1000000000000000 by omega), wrap_nat (show (i + j) / 2 < 1000000000000000000 by omega), hm, hx, call175, hp, wrap_i64s (show (i + j) / 2 < 1000000000000000000 by omega)]
    split
    · rename_i hlt2
      exact ⟨((i + j) / 2 + 1, j), ⟨by simp only; omega, by simp only; omega, by simp only; omega⟩, by simp only; omega, by kernel_rfl⟩
    · rename_i hlt2
      exact ⟨(i, (i + j) / 2), ⟨by simp only; omega, by simp only; omega, by simp only; omega⟩, by simp only; omega, by kernel_rfl⟩
  · have hij : i = posI k ks := by omega
    by_cases hend : i < ks.length
    · have hx : ks[i]? = some ks[i] := List.getElem?_eq_getElem hend
      have hb : hasI k ks = decide (ks[i] = k) := by subst hij; exact hasI_get hend
      rw [hb, ← hij]
      by_cases he : ks[i] = k
      · have heb : (ks[i] == k) = true := by simpa using he
        simp only [go_sem, T_3, T_42, T_76, T_234, hlt, hend, hx, heb, call176]
        simp [he]
      · have heb : (ks[i] == k) = false := by simpa using he
        simp only [go_sem, T_3, T_42, T_76, T_234, hlt, hend, hx, heb, call176]
        simp [he]
    · rw [hasI_end (by omega), ← hij]
      simp only [go_sem, T_3, T_42, T_76, T_234, hlt, hend]
theorem call121 (k : Int) (ks : List Int) (hr : risesI ks = true) (hl : ks.length < 1000000000000) (n : Nat) : callV (LX T fns) n (.clo 121 []) [.fz (ks.map (Cd.int .u32).enc), .int .u32 k] = .pure (.tup [.int .i64 (posI k ks), .bool (hasI k ks)], []) :=
  callV_plain (fn := fn121) rfl rfl rfl (lim121 k ks hr hl) n
theorem call121_at {ks : List Int} {ex : List (List V)} {k : Int} {n p l : Nat} {c : Option Nat} {f : Bool} {h : Heap} {tr : List Nat} (hat : h.at? p = some (.buf 1 (ks.map (Cd.int .u32).enc ++ ex) f true)) (hl : l = ks.length) (hr : risesI ks = true) (hb : ks.length < 1000000000000) :
    (callV (LX T fns) n (.clo 121 []) [.ms p 1 0 l c, .int .u32 k]).run h tr = some ((.tup [.int .i64 (posI k ks), .bool (hasI k ks)], []), p :: tr) := by
  subst hl
  refine callV_leaf (fn := fn121) rfl (args' := [.fz (ks.map (Cd.int .u32).enc), .int .u32 k]) (u := [(p, some (.buf 1 (ks.map (Cd.int .u32).enc ++ ex) true true))]) (fun K => ?_) rfl rfl rfl (lim121 k ks hr hb)
  simp only [fn121, List.append_nil, frzArgs, frz, frzAll, frzG, frzGAll, ms2, msUp, frzG, frzGAll, ms2, msUp, Rd.run, hat, List.tail]
  rw [if_pos ⟨trivial, by simp⟩]
  simp only [List.drop_zero, List.nil_append, List.append_nil, List.singleton_append]
  rw [List.take_left' (by simp)]
/-- Keys (and what lies behind them). -/
def kobU (ks : List Int) (ex : List (List V)) (f : Bool) : Ob := .buf 1 (ks.map (Cd.int .u32).enc ++ ex) f true
def mobU (i j n : Nat) : Ob := .buf 2 [[.ms i 1 0 n none, .ms j 1 0 n none]] false false
def vobU (vs : List Int) (ex : List (List V)) (f : Bool) : Ob := .buf 1 (vs.map (Cd.int .u32).enc ++ ex) f true
theorem eqPU (i r o : Nat) : eqV T 239 (.ptr i r o) .nilp = some false := by
  unfold eqV
  rw [T_239]
theorem lim215 (k : Int) (ks : List Int) (vs : List Int) (ex ey : List (List V)) (f g : Bool) (hr : risesI ks = true) (hl : ks.length < 1000000000000) : lim T fns 215 [.ptr 0 0 0, .int .u32 k] [mobU 1 2 ks.length, kobU ks ex f, vobU vs ey g] =
    some (.tup [.int .i64 (posI k ks), .bool (hasI k ks)], [some (mobU 1 2 ks.length), some (kobU ks ex f), some (vobU vs ey g)]) := by
  refine fn_rule (fn := fn215) rfl rfl (by simp [fn215]) ?_
  unfold fn215
  simp only [Try.f215, Option.getD_some, argEnv, List.map_nil, List.length_nil]
  have hc := fun (n : Nat) (a : Option Ob) (rest : Heap) => call121_at (ks := ks) (k := k) (n := n) (p := 1) (l := ks.length) (c := none) (f := f) (h := a :: some (.buf 1 (ks.map (Cd.int .u32).enc ++ ex) f true) :: rest) (tr := []) rfl rfl hr hl
  simp only [mobU, kobU, vobU]
  simp only [go_sem, T_42, T_76, T_239, T_269, hc, eqPU, nilCheckR, extractR]
  show _ = _
  kernel_rfl
theorem call215 (k : Int) (ks : List Int) (vs : List Int) (ex ey : List (List V)) (f g : Bool) (hr : risesI ks = true) (hl : ks.length < 1000000000000) (n : Nat) (hn : 3 ≤ n) (rest : Heap) : (callV (LX T fns) n (.clo 215 []) [.ptr 0 0 0, .int .u32 k]).run (some (mobU 1 2 ks.length) :: some (kobU ks ex f) :: some (vobU vs ey g) :: rest) [] =
    some ((.tup [.int .i64 (posI k ks), .bool (hasI k ks)], [(0, some (mobU 1 2 ks.length)), (1, some (kobU ks ex f)), (2, some (vobU vs ey g))]), [2, 1, 0]) := by
  have h := lim215 k ks vs ex ey f g hr hl
  simp only [mobU, kobU, vobU] at h ⊢
  have hf : fns 215 = some fn215 := rfl
  unfold callV
  simp only [hf]
  unfold callR
  simp only [fn215, List.cons_append, List.nil_append, List.append_nil, frzArgs, frz, frzAll, frzG, frzGAll, ms2, msUp, List.tail]
  simp only [V.allIds, V.ids, List.append_nil, List.nil_append, collect, List.map_nil, List.contains_nil, Bool.false_eq_true, if_false, Rd.run, Heap.at?, Ob.ids, rowsIds, List.map_cons, List.cons_append, List.contains_cons, Nat.reduceBEq, Bool.or_self, Bool.or_false, Bool.false_or, Bool.or_true, Bool.true_or, if_true]
  unfold withR
  simp only [List.map_cons, List.map_nil, upd1, List.all_nil, List.all_cons, show 0 < n by omega, show 1 < n by omega, show 2 < n by omega, decide_true, Bool.and_self, if_true, V.reAll, V.re, idx, Nat.beq, cond_true, cond_false, Option.bind_some, Option.map_some, pullObs, Ob.re, reRows, Nat.reduceAdd, h, List.length_cons, List.length_nil, Nat.le_refl]
  unfold afterR
  simp only [V.re, V.reAll, pushObs, back, nth, Ob.re, reRows, Option.bind_some, Option.map_some, List.isEmpty_cons, Bool.false_and, Bool.false_eq_true, if_false, Rd.run, List.append_nil, Nat.reduceAdd]
def valU (x : Int) : V := .int .u32 x
def zU : Int := 0
theorem lim182 (k : Int) (ks : List Int) (vs : List Int) (ex ey : List (List V)) (f g : Bool) (hr : risesI ks = true) (hl : ks.length < 1000000000000) (hv : vs.length = ks.length) : lim T fns 182 [.ptr 0 0 0, .int .u32 k] [mobU 1 2 ks.length, kobU ks ex f, vobU vs ey g] =
    some (.tup [valU (gtI zU k ks vs), .bool (hasI k ks)], [some (mobU 1 2 ks.length), some (kobU ks ex f), some (vobU vs ey g)]) := by
  refine fn_rule (fn := fn182) rfl rfl (by simp [fn182]) ?_
  unfold fn182
  simp only [Try.f182, Option.getD_some, argEnv, List.map_nil, List.length_nil]
  have hc := fun (n : Nat) (hn : 3 ≤ n) (rest : Heap) => call215 k ks vs ex ey f g hr hl n hn rest
  cases hb : hasI k ks with
  | true =>
    have hp : posI k ks < vs.length := by rw [hv]; exact hasI_lt hb
    have hx : vs[posI k ks]? = some vs[posI k ks] := List.getElem?_eq_getElem hp
    have hy : (vs.map (Cd.int .u32).enc ++ ey)[posI k ks]? = some ((Cd.int .u32).enc vs[posI k ks]) := by
      rw [List.getElem?_append_left (by simpa using hp), List.getElem?_map, hx]
      rfl
    have hp2 : posI k ks < ks.length := by omega
    rw [hb] at hc
    simp only [mobU, kobU, vobU] at hc ⊢
    have hy : (vs.map (Cd.int .u32).enc ++ ey)[posI k ks]? = some [V.int .u32 vs[posI k ks]] := hy
    simp only [go_sem, T_4, T_42, T_76, T_239, T_269, hc, eqPU, nilCheckR, extractR, hx, hy, hp, hp2, hv, valU, gtI, hb, Option.getD_some]
    show _ = _
    kernel_rfl
  | false =>
    rw [hb] at hc
    simp only [mobU, kobU, vobU] at hc ⊢
    simp only [go_sem, T_4, T_42, T_76, T_239, T_269, hc, eqPU, nilCheckR, extractR, valU, gtI, hb, zU]
    show _ = _
    kernel_rfl
theorem call182 (k : Int) (ks : List Int) (vs : List Int) (ex ey : List (List V)) (f g : Bool) (hr : risesI ks = true) (hl : ks.length < 1000000000000) (hv : vs.length = ks.length) (n : Nat) (hn : 3 ≤ n) (rest : Heap) : (callV (LX T fns) n (.clo 182 []) [.ptr 0 0 0, .int .u32 k]).run (some (mobU 1 2 ks.length) :: some (kobU ks ex f) :: some (vobU vs ey g) :: rest) [] =
    some ((.tup [valU (gtI zU k ks vs), .bool (hasI k ks)], [(0, some (mobU 1 2 ks.length)), (1, some (kobU ks ex f)), (2, some (vobU vs ey g))]), [2, 1, 0]) := by
  have h := lim182 k ks vs ex ey f g hr hl hv
  simp only [mobU, kobU, vobU, valU] at h ⊢
  have hf : fns 182 = some fn182 := rfl
  unfold callV
  simp only [hf]
  unfold callR
  simp only [fn182, List.cons_append, List.nil_append, List.append_nil, frzArgs, frz, frzAll, frzG, frzGAll, ms2, msUp, List.tail]
  simp only [V.allIds, V.ids, List.append_nil, List.nil_append, collect, List.map_nil, List.contains_nil, Bool.false_eq_true, if_false, Rd.run, Heap.at?, Ob.ids, rowsIds, List.map_cons, List.cons_append, List.contains_cons, Nat.reduceBEq, Bool.or_self, Bool.or_false, Bool.false_or, Bool.or_true, Bool.true_or, if_true]
  unfold withR
  simp only [List.map_cons, List.map_nil, upd1, List.all_nil, List.all_cons, show 0 < n by omega, show 1 < n by omega, show 2 < n by omega, decide_true, Bool.and_self, if_true, V.reAll, V.re, idx, Nat.beq, cond_true, cond_false, Option.bind_some, Option.map_some, pullObs, Ob.re, reRows, Nat.reduceAdd, h, List.length_cons, List.length_nil, Nat.le_refl]
  unfold afterR
  simp only [V.re, V.reAll, pushObs, back, nth, Ob.re, reRows, Option.bind_some, Option.map_some, List.isEmpty_cons, Bool.false_and, Bool.false_eq_true, if_false, Rd.run, List.append_nil, Nat.reduceAdd]
theorem cloneU_at {n p l : Nat} {c : Option Nat} {rows : List (List V)} {f : Bool} {h : Heap} {tr : List Nat} (hat : h.at? p = some (.buf 1 rows f true)) (hl : l ≤ rows.length) (ha : ((rows.take l).all fun r => r.length == 1) = true) (hb : l < 1000000000000) :
    (callV (LX T fns) n (.clo 174 []) [.ms p 1 0 l c]).run h tr = some ((.ms n 1 0 l none, [(n, some (.buf 1 (rows.take l) false true)), (p, some (.buf 1 rows true true))]), p :: tr) := by
  have hlen : (rows.take l).length = l := by simp; omega
  refine callV_newf (fn := fn174) rfl (args' := [.fz (rows.take l)]) (u := [(p, some (.buf 1 rows true true))]) (us := [(n, some (.buf 1 (rows.take l) false true))]) (r := .ms 0 1 0 l none) (H := [some (.buf 1 (rows.take l) false true)]) (fun K => ?_) rfl ?_ ?_ ?_ rfl
  · simp only [fn174, List.append_nil, frzArgs, frz, frzAll, frzG, frzGAll, ms2, msUp, frzG, frzGAll, ms2, msUp, Rd.run, hat, List.tail]
    rw [if_pos ⟨trivial, by omega⟩]
    simp only [List.drop_zero, List.nil_append, List.append_nil]
  · refine lim_clone T fns (fn := fn174) rfl (st := 1) (bytes := 4) rfl ?_
    simp only [cloneFn]
    rw [if_pos ⟨by decide, ha, by omega⟩, hlen]
  · simp [V.re, back, nth]
  · simp [pushObs, back, nth, Ob.re]
theorem clipU_at {n p l : Nat} {rows : List (List V)} {f : Bool} {h : Heap} {tr : List Nat} (hat : h.at? p = some (.buf 1 rows f true)) (hpn : p < n) (hb : l < 1000000000000) :
    (callV (LX T fns) n (.clo 217 []) [.ms p 1 0 l none]).run h tr = some ((.ms p 1 0 l (some l), [(p, some (.buf 1 rows f true))]), p :: tr) := by
  have := callV_one (T := T) (fns := fns) (g := 217) (fn := fn217) rfl (args := [.ms p 1 0 l none]) (caps := []) (args' := [.ms p 1 0 l none]) (args2 := [.ms 0 1 0 l none]) (u := []) (us := [(p, some (.buf 1 rows f true))]) (r := .ms 0 1 0 l (some l)) (r' := .ms p 1 0 l (some l)) (o := .buf 1 rows f true) (H := [some (.buf 1 rows f true)]) (h := h) (tr := tr) (tr' := tr) (n := n) (p := p)
    (fun K => by simp only [fn217, List.append_nil, frzArgs, List.tail]) hat rfl rfl rfl hpn (by simp [V.reAll, V.re, idx]) rfl (lim217 l rows f hb) (Nat.le_refl _) (by simp [V.re, back, nth]) (by simp [pushObs, back, nth, Ob.re])
  simpa using this
theorem insU_at {n p q l i : Nat} {kr : List V} {rows : List (List V)} {f g : Bool} {h : Heap} {tr : List Nat} (hat : h.at? p = some (.buf 1 rows f true)) (hat2 : h.at? q = some (.buf 1 [kr] g true)) (hpq : q ≠ p) (hpn : p < n) (hk : kr.length = 1) (hl : rows.length = l) (hb : l < 1000000000000) (hi : i ≤ l) :
    (callV (LX T fns) n (.clo 216 []) [.ms p 1 0 l (some l), .int .i64 i, .ms q 1 0 1 none]).run h tr = some ((.ms n 1 0 (l + 1) none, [(p, some (.buf 1 rows f true)), (n, some (.buf 1 (rows.take i ++ [kr] ++ rows.drop i) false true)), (q, some (.buf 1 [kr] true true))]), p :: q :: tr) := by
  have := callV_one (T := T) (fns := fns) (g := 216) (fn := fn216) rfl (args := [.ms p 1 0 l (some l), .int .i64 i, .ms q 1 0 1 none]) (caps := []) (args' := [.ms p 1 0 l (some l), .int .i64 i, .fz [kr]]) (args2 := [.ms 0 1 0 l (some l), .int .i64 i, .fz [kr]]) (u := [(q, some (.buf 1 [kr] true true))]) (us := [(p, some (.buf 1 rows f true)), (n, some (.buf 1 (rows.take i ++ [kr] ++ rows.drop i) false true))])
    (r := .ms 1 1 0 (l + 1) none) (r' := .ms n 1 0 (l + 1) none) (o := .buf 1 rows f true) (H := [some (.buf 1 rows f true), some (.buf 1 (rows.take i ++ [kr] ++ rows.drop i) false true)]) (h := h) (tr := tr) (tr' := q :: tr) (n := n) (p := p)
    (fun K => by
      simp only [fn216, List.append_nil, frzArgs, frz, frzAll, frzG, frzGAll, ms2, msUp, frzG, frzGAll, ms2, msUp, Rd.run, hat2, List.tail]
      rw [if_pos ⟨trivial, by simp⟩]
      simp) hat (by simp [V.allIds, V.ids]) rfl (by simp [hpq]) hpn (by simp [V.reAll, V.re, idx]) rfl (lim216 l i kr rows f hk hl hb hi) (by simp) (by simp [V.re, back, nth]) (by simp [pushObs, back, nth, Ob.re])
  simpa using this
/-! As simp sees them: the objects first. -/
open Classical in
noncomputable def clU (n p l : Nat) (c : Option Nat) (h : Heap) (tr : List Nat) (x : Option Ob) : Option ((V × Upd) × List Nat) := match x with
  | some (.buf st rows _ true) => if st = 1 ∧ l ≤ rows.length ∧ ((rows.take l).all fun r => r.length == 1) = true ∧ l < 1000000000000 then some ((.ms n 1 0 l none, [(n, some (.buf 1 (rows.take l) false true)), (p, some (.buf 1 rows true true))]), p :: tr) else (callV (LX T fns) n (.clo 174 []) [.ms p 1 0 l c]).run h tr
  | _ => (callV (LX T fns) n (.clo 174 []) [.ms p 1 0 l c]).run h tr
theorem cloneU_look {n p l : Nat} {c : Option Nat} {h : Heap} {tr : List Nat} : (callV (LX T fns) n (.clo 174 []) [.ms p 1 0 l c]).run h tr = clU n p l c h tr (h.at? p) := by
  unfold clU
  split
  · rename_i st rows f hx
    split
    · rename_i hc
      obtain ⟨rfl, h1, h2, h3⟩ := hc
      exact cloneU_at hx h1 h2 h3
    · rfl
  · rfl
theorem cloneU_got {n p l : Nat} {c : Option Nat} {h : Heap} {tr : List Nat} {rows ex : List (List V)} {f : Bool} (h1 : rows.length = l) (h2 : (rows.all fun r => r.length == 1) = true) (h3 : l < 1000000000000) :
    clU n p l c h tr (some (.buf 1 (rows ++ ex) f true)) = some ((.ms n 1 0 l none, [(n, some (.buf 1 rows false true)), (p, some (.buf 1 (rows ++ ex) true true))]), p :: tr) := by
  have e : (rows ++ ex).take l = rows := List.take_left' h1
  unfold clU
  simp only
  rw [if_pos ⟨trivial, by simp; omega, by rw [e]; exact h2, h3⟩, e]
open Classical in
noncomputable def cpU (n p l : Nat) (h : Heap) (tr : List Nat) (x : Option Ob) : Option ((V × Upd) × List Nat) := match x with
  | some (.buf st rows f true) => if st = 1 ∧ p < n ∧ l < 1000000000000 then some ((.ms p 1 0 l (some l), [(p, some (.buf 1 rows f true))]), p :: tr) else (callV (LX T fns) n (.clo 217 []) [.ms p 1 0 l none]).run h tr
  | _ => (callV (LX T fns) n (.clo 217 []) [.ms p 1 0 l none]).run h tr
theorem clipU_look {n p l : Nat} {h : Heap} {tr : List Nat} : (callV (LX T fns) n (.clo 217 []) [.ms p 1 0 l none]).run h tr = cpU n p l h tr (h.at? p) := by
  unfold cpU
  split
  · rename_i st rows f hx
    split
    · rename_i hc
      obtain ⟨rfl, h1, h2⟩ := hc
      exact clipU_at hx h1 h2
    · rfl
  · rfl
theorem clipU_got {n p l : Nat} {h : Heap} {tr : List Nat} {rows : List (List V)} {f : Bool} (h1 : p < n) (h3 : l < 1000000000000) :
    cpU n p l h tr (some (.buf 1 rows f true)) = some ((.ms p 1 0 l (some l), [(p, some (.buf 1 rows f true))]), p :: tr) := by
  unfold cpU
  simp only
  rw [if_pos ⟨trivial, h1, h3⟩]
open Classical in
noncomputable def inU (n p q l i : Nat) (h : Heap) (tr : List Nat) (x y : Option Ob) : Option ((V × Upd) × List Nat) := match x, y with
  | some (.buf st rows f true), some (.buf st2 [kr] g true) => if st = 1 ∧ st2 = 1 ∧ q ≠ p ∧ p < n ∧ kr.length = 1 ∧ rows.length = l ∧ l < 1000000000000 ∧ i ≤ l then
      some ((.ms n 1 0 (l + 1) none, [(p, some (.buf 1 rows f true)), (n, some (.buf 1 (rows.take i ++ [kr] ++ rows.drop i) false true)), (q, some (.buf 1 [kr] true true))]), p :: q :: tr) else (callV (LX T fns) n (.clo 216 []) [.ms p 1 0 l (some l), .int .i64 i, .ms q 1 0 1 none]).run h tr
  | _, _ => (callV (LX T fns) n (.clo 216 []) [.ms p 1 0 l (some l), .int .i64 i, .ms q 1 0 1 none]).run h tr
theorem insU_look {n p q l i : Nat} {h : Heap} {tr : List Nat} : (callV (LX T fns) n (.clo 216 []) [.ms p 1 0 l (some l), .int .i64 i, .ms q 1 0 1 none]).run h tr = inU n p q l i h tr (h.at? p) (h.at? q) := by
  unfold inU
  split
  · rename_i st rows f st2 kr g hx hy
    split
    · rename_i hc
      obtain ⟨rfl, rfl, h1, h2, h3, h4, h5, h6⟩ := hc
      exact insU_at hx hy h1 h2 h3 h4 h5 h6
    · rfl
  · rfl
theorem insU_got {n p q l i : Nat} {h : Heap} {tr : List Nat} {rows : List (List V)} {kr : List V} {f g : Bool} (h1 : q ≠ p) (h2 : p < n) (h3 : kr.length = 1) (h4 : rows.length = l) (h5 : l < 1000000000000) (h6 : i ≤ l) :
    inU n p q l i h tr (some (.buf 1 rows f true)) (some (.buf 1 [kr] g true)) = some ((.ms n 1 0 (l + 1) none, [(p, some (.buf 1 rows f true)), (n, some (.buf 1 (insAt i kr rows) false true)), (q, some (.buf 1 [kr] true true))]), p :: q :: tr) := by
  unfold inU
  exact if_pos ⟨rfl, rfl, h1, h2, h3, h4, h5, h6⟩
attribute [go_sem] cloneU_look cloneU_got clipU_look clipU_got insU_look insU_got
theorem insAt_u32 {i : Nat} {x : Int} {l : List Int} : insAt i [V.int .u32 x] (l.map (Cd.int .u32).enc) = (insAt i x l).map (Cd.int .u32).enc := insAt_map (f := (Cd.int .u32).enc)
theorem lim183_new (k : Int) (c : Int) (ks : List Int) (vs : List Int) (ex ey : List (List V)) (f g : Bool) (hr : risesI ks = true) (hl : ks.length < 1000000000) (hv : vs.length = ks.length) (hb : hasI k ks = false) : lim T fns 183 [.ptr 0 0 0, .int .u32 k, valU c] [mobU 1 2 ks.length, kobU ks ex f, vobU vs ey g] =
    some (.bool true, [some (mobU 3 4 (ks.length + 1)), some (kobU ks ex true), some (vobU vs ey true), some (kobU (insAt (posI k ks) k ks) [] false), some (vobU (insAt (posI k ks) c vs) [] false)]) := by
  refine fn_rule (fn := fn183) rfl rfl (by simp [fn183]) ?_
  unfold fn183
  simp only [Try.f183, Option.getD_some, argEnv, List.map_nil, List.length_nil]
  have hc := fun (n : Nat) (hn : 3 ≤ n) (rest : Heap) => call215 k ks vs ex ey f g hr (by omega) n hn rest
  have hp := posI_le k ks
  have hl12 : ks.length < 1000000000000 := by omega
  rw [hb] at hc
  simp only [mobU, kobU, vobU, List.append_nil] at hc ⊢
  simp only [go_sem, T_1, T_3, T_42, T_76, T_239, T_269, hc, eqPU, nilCheckR, extractR, hv, hp, hl12, valU, all_int, insAt_u32, buildSliceR, fillR, List.replicate, List.set_cons_zero, ne_eq, Nat.reduceEqDiff]
  repeat (refine ⟨by kernel_rfl, ?_⟩)
  show _ = _
  kernel_rfl
theorem lim183_old (k : Int) (c : Int) (ks : List Int) (vs : List Int) (ex ey : List (List V)) (f g : Bool) (hr : risesI ks = true) (hl : ks.length < 1000000000) (hv : vs.length = ks.length) (hb : hasI k ks = true) : lim T fns 183 [.ptr 0 0 0, .int .u32 k, valU c] [mobU 1 2 ks.length, kobU ks ex f, vobU vs ey g] =
    some (.bool false, [some (mobU 1 3 ks.length), some (kobU ks ex f), some (vobU vs ey true), some (vobU (vs.set (posI k ks) c) [] false)]) := by
  refine fn_rule (fn := fn183) rfl rfl (by simp [fn183]) ?_
  unfold fn183
  simp only [Try.f183, Option.getD_some, argEnv, List.map_nil, List.length_nil]
  have hc := fun (n : Nat) (hn : 3 ≤ n) (rest : Heap) => call215 k ks vs ex ey f g hr (by omega) n hn rest
  have hp2 := hasI_lt hb
  have hp : posI k ks < vs.length := by omega
  have hl12 : ks.length < 1000000000000 := by omega
  have hx : vs[posI k ks]? = some vs[posI k ks] := List.getElem?_eq_getElem hp
  rw [hb] at hc
  simp only [mobU, kobU, vobU, List.append_nil] at hc ⊢
  simp only [go_sem, T_1, T_3, T_42, T_76, T_239, T_269, hc, eqPU, nilCheckR, extractR, hv, hp, hp2, hl12, hx, valU, all_int, ne_eq, Nat.reduceEqDiff]
  repeat (refine ⟨by kernel_rfl, ?_⟩)
  rw [show [V.int .u32 c] = (Cd.int .u32).enc c from rfl, ← List.map_set]
  show _ = _
  kernel_rfl
theorem call183_new (k : Int) (c : Int) (ks : List Int) (vs : List Int) (ex ey : List (List V)) (f g : Bool) (hr : risesI ks = true) (hl : ks.length < 1000000000) (hv : vs.length = ks.length) (hb : hasI k ks = false) (n : Nat) (hn : 3 ≤ n) (rest : Heap) :
    (callV (LX T fns) n (.clo 183 []) [.ptr 0 0 0, .int .u32 k, valU c]).run (some (mobU 1 2 ks.length) :: some (kobU ks ex f) :: some (vobU vs ey g) :: rest) [] =
    some ((.bool true, [(0, some (mobU n (n + 1) (ks.length + 1))), (1, some (kobU ks ex true)), (2, some (vobU vs ey true)), (n, some (kobU (insAt (posI k ks) k ks) [] false)), (n + 1, some (vobU (insAt (posI k ks) c vs) [] false))]), [2, 1, 0]) := by
  have h := lim183_new k c ks vs ex ey f g hr hl hv hb
  simp only [mobU, kobU, vobU, valU, List.append_nil] at h ⊢
  have hf : fns 183 = some fn183 := rfl
  unfold callV
  simp only [hf]
  unfold callR
  simp only [fn183, List.cons_append, List.nil_append, List.append_nil, frzArgs, frz, frzAll, frzG, frzGAll, ms2, msUp, List.tail]
  simp only [V.allIds, V.ids, List.append_nil, List.nil_append, collect, List.map_nil, List.contains_nil, Bool.false_eq_true, if_false, Rd.run, Heap.at?, Ob.ids, rowsIds, List.map_cons, List.cons_append, List.contains_cons, Nat.reduceBEq, Bool.or_self, Bool.or_false, Bool.false_or, Bool.or_true, Bool.true_or, if_true]
  unfold withR
  simp only [List.map_cons, List.map_nil, upd1, List.all_nil, List.all_cons, show 0 < n by omega, show 1 < n by omega, show 2 < n by omega, decide_true, Bool.and_self, if_true, V.reAll, V.re, idx, Nat.beq, cond_true, cond_false, Option.bind_some, Option.map_some, pullObs, Ob.re, reRows, Nat.reduceAdd, h, List.length_cons, List.length_nil, Nat.le_refl]
  unfold afterR
  simp only [V.re, V.reAll, pushObs, back, nth, Ob.re, reRows, Option.bind_some, Option.map_some, List.isEmpty_cons, Bool.false_and, Bool.false_eq_true, if_false, Rd.run, List.append_nil, Nat.reduceAdd]
  simp only [List.length_cons, List.length_nil, Nat.zero_add, Nat.reduceAdd, Nat.reduceLT, Nat.reduceLeDiff, if_true, Option.map_some, Option.bind_some, Nat.reduceSub, Nat.sub_self, Nat.add_zero]
  show _ = _
  kernel_rfl
theorem call183_old (k : Int) (c : Int) (ks : List Int) (vs : List Int) (ex ey : List (List V)) (f g : Bool) (hr : risesI ks = true) (hl : ks.length < 1000000000) (hv : vs.length = ks.length) (hb : hasI k ks = true) (n : Nat) (hn : 3 ≤ n) (rest : Heap) :
    (callV (LX T fns) n (.clo 183 []) [.ptr 0 0 0, .int .u32 k, valU c]).run (some (mobU 1 2 ks.length) :: some (kobU ks ex f) :: some (vobU vs ey g) :: rest) [] =
    some ((.bool false, [(0, some (mobU 1 n ks.length)), (1, some (kobU ks ex f)), (2, some (vobU vs ey true)), (n, some (vobU (vs.set (posI k ks) c) [] false))]), [2, 1, 0]) := by
  have h := lim183_old k c ks vs ex ey f g hr hl hv hb
  simp only [mobU, kobU, vobU, valU, List.append_nil] at h ⊢
  have hf : fns 183 = some fn183 := rfl
  unfold callV
  simp only [hf]
  unfold callR
  simp only [fn183, List.cons_append, List.nil_append, List.append_nil, frzArgs, frz, frzAll, frzG, frzGAll, ms2, msUp, List.tail]
  simp only [V.allIds, V.ids, List.append_nil, List.nil_append, collect, List.map_nil, List.contains_nil, Bool.false_eq_true, if_false, Rd.run, Heap.at?, Ob.ids, rowsIds, List.map_cons, List.cons_append, List.contains_cons, Nat.reduceBEq, Bool.or_self, Bool.or_false, Bool.false_or, Bool.or_true, Bool.true_or, if_true]
  unfold withR
  simp only [List.map_cons, List.map_nil, upd1, List.all_nil, List.all_cons, show 0 < n by omega, show 1 < n by omega, show 2 < n by omega, decide_true, Bool.and_self, if_true, V.reAll, V.re, idx, Nat.beq, cond_true, cond_false, Option.bind_some, Option.map_some, pullObs, Ob.re, reRows, Nat.reduceAdd, h, List.length_cons, List.length_nil, Nat.le_refl]
  unfold afterR
  simp only [V.re, V.reAll, pushObs, back, nth, Ob.re, reRows, Option.bind_some, Option.map_some, List.isEmpty_cons, Bool.false_and, Bool.false_eq_true, if_false, Rd.run, List.append_nil, Nat.reduceAdd]
  simp only [List.length_cons, List.length_nil, Nat.zero_add, Nat.reduceAdd, Nat.reduceLT, Nat.reduceLeDiff, if_true, Option.map_some, Option.bind_some, Nat.reduceSub, Nat.sub_self, Nat.add_zero]
  show _ = _
  kernel_rfl
theorem lim180 : lim T fns 180 [] [] = some (.ptr 0 0 0, [some (.buf 2 [[.nils, .nils]] false true)]) := by
  refine fn_rule (fn := fn180) rfl rfl (by simp [fn180]) ?_
  unfold fn180
  simp only [Try.f180, Option.getD_some, argEnv, List.map_nil, List.length_nil]
  simp only [go_sem, T_42, T_76, T_269]
  show _ = _
  kernel_rfl
theorem call180 {n : Nat} {h : Heap} {tr : List Nat} : (callV (LX T fns) n (.clo 180 []) []).run h tr = some ((.ptr n 0 0, [(n, some (.buf 2 [[.nils, .nils]] false true))]), tr) :=
  callV_newf (fn := fn180) rfl (args' := []) (u := []) (us := [(n, some (.buf 2 [[.nils, .nils]] false true))]) (fun K => by simp only [fn180, List.append_nil, frzArgs]) rfl lim180 (by simp [V.re, back, nth]) (by simp [pushObs, back, nth, Ob.re]) rfl
theorem lim218 (ks : List Int) (vs : List Int) (ex ey : List (List V)) (f g : Bool) : lim T fns 218 [.ptr 0 0 0, .int .i64 0] [mobU 1 2 ks.length, kobU ks ex f, vobU vs ey g] =
    some (.clo 235 [.ptr 3 0 0, .ptr 4 0 0], [some (mobU 1 2 ks.length), some (kobU ks ex f), some (vobU vs ey g), some (.buf 1 [[.ptr 0 0 0]] false false), some (.buf 1 [[.int .i64 0]] false true)]) := by
  refine fn_rule (fn := fn218) rfl rfl (by simp [fn218]) ?_
  unfold fn218
  simp only [Try.f218, Option.getD_some, argEnv, List.map_nil, List.length_nil]
  simp only [mobU, kobU, vobU]
  simp only [go_sem, T_3, T_239]
  show _ = _
  kernel_rfl
theorem call218 (ks : List Int) (vs : List Int) (ex ey : List (List V)) (f g : Bool) (n : Nat) (hn : 3 ≤ n) (rest : Heap) :
    (callV (LX T fns) n (.clo 218 []) [.ptr 0 0 0, .int .i64 0]).run (some (mobU 1 2 ks.length) :: some (kobU ks ex f) :: some (vobU vs ey g) :: rest) [] =
    some ((.clo 235 [.ptr n 0 0, .ptr (n + 1) 0 0], [(0, some (mobU 1 2 ks.length)), (1, some (kobU ks ex f)), (2, some (vobU vs ey g)), (n, some (.buf 1 [[.ptr 0 0 0]] false false)), (n + 1, some (.buf 1 [[.int .i64 0]] false true))]), [2, 1, 0]) := by
  have h := lim218 ks vs ex ey f g
  simp only [mobU, kobU, vobU] at h ⊢
  have hf : fns 218 = some fn218 := rfl
  unfold callV
  simp only [hf]
  unfold callR
  simp only [fn218, List.cons_append, List.nil_append, List.append_nil, frzArgs, frz, frzAll, frzG, frzGAll, ms2, msUp, List.tail]
  simp only [V.allIds, V.ids, List.append_nil, List.nil_append, collect, List.map_nil, List.contains_nil, Bool.false_eq_true, if_false, Rd.run, Heap.at?, Ob.ids, rowsIds, List.map_cons, List.cons_append, List.contains_cons, Nat.reduceBEq, Bool.or_self, Bool.or_false, Bool.false_or, Bool.or_true, Bool.true_or, if_true]
  unfold withR
  simp only [List.map_cons, List.map_nil, upd1, List.all_nil, List.all_cons, show 0 < n by omega, show 1 < n by omega, show 2 < n by omega, decide_true, Bool.and_self, if_true, V.reAll, V.re, idx, Nat.beq, cond_true, cond_false, Option.bind_some, Option.map_some, pullObs, Ob.re, reRows, Nat.reduceAdd, h, List.length_cons, List.length_nil, Nat.le_refl]
  unfold afterR
  simp only [V.re, V.reAll, pushObs, back, nth, Ob.re, reRows, Option.bind_some, Option.map_some, List.isEmpty_cons, Bool.false_and, Bool.false_eq_true, if_false, Rd.run, List.append_nil, Nat.reduceAdd]
  simp only [List.length_cons, List.length_nil, Nat.zero_add, Nat.reduceAdd, Nat.reduceLT, Nat.reduceLeDiff, if_true, Option.map_some, Option.bind_some, Nat.reduceSub, Nat.sub_self, Nat.add_zero]
  show _ = _
  kernel_rfl
theorem lim184 (ks : List Int) (vs : List Int) (ex ey : List (List V)) (f g : Bool) : lim T fns 184 [.ptr 0 0 0] [mobU 1 2 ks.length, kobU ks ex f, vobU vs ey g] =
    some (.clo 235 [.ptr 3 0 0, .ptr 4 0 0], [some (mobU 1 2 ks.length), some (kobU ks ex f), some (vobU vs ey g), some (.buf 1 [[.ptr 0 0 0]] false false), some (.buf 1 [[.int .i64 0]] false true)]) := by
  refine fn_rule (fn := fn184) rfl rfl (by simp [fn184]) ?_
  unfold fn184
  simp only [Try.f184, Option.getD_some, argEnv, List.map_nil, List.length_nil]
  have hc := fun (n : Nat) (hn : 3 ≤ n) (rest : Heap) => call218 ks vs ex ey f g n hn rest
  simp only [mobU, kobU, vobU] at hc ⊢
  simp only [go_sem, T_3, T_239, hc]
  show _ = _
  kernel_rfl
theorem call184 (ks : List Int) (vs : List Int) (ex ey : List (List V)) (f g : Bool) (n : Nat) (hn : 3 ≤ n) (rest : Heap) :
    (callV (LX T fns) n (.clo 184 []) [.ptr 0 0 0]).run (some (mobU 1 2 ks.length) :: some (kobU ks ex f) :: some (vobU vs ey g) :: rest) [] =
    some ((.clo 235 [.ptr n 0 0, .ptr (n + 1) 0 0], [(0, some (mobU 1 2 ks.length)), (1, some (kobU ks ex f)), (2, some (vobU vs ey g)), (n, some (.buf 1 [[.ptr 0 0 0]] false false)), (n + 1, some (.buf 1 [[.int .i64 0]] false true))]), [2, 1, 0]) := by
  have h := lim184 ks vs ex ey f g
  simp only [mobU, kobU, vobU] at h ⊢
  have hf : fns 184 = some fn184 := rfl
  unfold callV
  simp only [hf]
  unfold callR
  simp only [fn184, List.cons_append, List.nil_append, List.append_nil, frzArgs, frz, frzAll, frzG, frzGAll, ms2, msUp, List.tail]
  simp only [V.allIds, V.ids, List.append_nil, List.nil_append, collect, List.map_nil, List.contains_nil, Bool.false_eq_true, if_false, Rd.run, Heap.at?, Ob.ids, rowsIds, List.map_cons, List.cons_append, List.contains_cons, Nat.reduceBEq, Bool.or_self, Bool.or_false, Bool.false_or, Bool.or_true, Bool.true_or, if_true]
  unfold withR
  simp only [List.map_cons, List.map_nil, upd1, List.all_nil, List.all_cons, show 0 < n by omega, show 1 < n by omega, show 2 < n by omega, decide_true, Bool.and_self, if_true, V.reAll, V.re, idx, Nat.beq, cond_true, cond_false, Option.bind_some, Option.map_some, pullObs, Ob.re, reRows, Nat.reduceAdd, h, List.length_cons, List.length_nil, Nat.le_refl]
  unfold afterR
  simp only [V.re, V.reAll, pushObs, back, nth, Ob.re, reRows, Option.bind_some, Option.map_some, List.isEmpty_cons, Bool.false_and, Bool.false_eq_true, if_false, Rd.run, List.append_nil, Nat.reduceAdd]
  simp only [List.length_cons, List.length_nil, Nat.zero_add, Nat.reduceAdd, Nat.reduceLT, Nat.reduceLeDiff, if_true, Option.map_some, Option.bind_some, Nat.reduceSub, Nat.sub_self, Nat.add_zero]
  show _ = _
  kernel_rfl
end Go.Proofs.Ytfdemnefkfkghaa.R
/- slices.Sort of numbers: rows, exchanges; insertionSort. -/
namespace Go.Proofs.Ytfdemnefkfkghaa.R
open Go Go.Proofs
set_option linter.unusedSimpArgs false
set_option linter.unusedVariables false
set_option maxRecDepth 10000
set_option maxHeartbeats 4000000

def rw1 (d : Array Int) : List (List V) := d.toList.map (Cd.int .u32).enc
def ob1 (d : Array Int) : Ob := .buf 1 (rw1 d) false true
theorem rw1_len {d : Array Int} : (rw1 d).length = d.size := by simp [rw1]
theorem getB {d : Array Int} {i : Nat} (h : i < d.size) : d[i]! = d[i] := getElem!_pos d i h
theorem rw1_get {d : Array Int} {i : Nat} (h : i < d.size) : (rw1 d)[i]? = some [.int .u32 d[i]!] := by
  unfold rw1
  rw [List.getElem?_map, getB h, List.getElem?_eq_getElem (by simpa using h)]
  simp only [Option.map_some, Array.getElem_toList]
  rfl
theorem rw1_get2 {d : Array Int} {i j : Nat} {x : List V} (h : j < d.size) (hn : i ≠ j) : ((rw1 d).set i x)[j]? = some [.int .u32 d[j]!] := by
  rw [List.getElem?_set_ne hn, rw1_get h]
theorem swp_size {d : Array Int} {i j : Nat} : (Sort.swp d i j).size = d.size := by simp [Sort.swp]
theorem rw1_swp {d : Array Int} {i j : Nat} (hi : i < d.size) (hj : j < d.size) : ((rw1 d).set i [.int .u32 d[j]!]).set j [.int .u32 d[i]!] = rw1 (Sort.swp d i j) := by
  unfold rw1 Sort.swp
  rw [Array.toList_setIfInBounds, Array.toList_setIfInBounds, List.map_set, List.map_set]
  rfl
theorem rw1_all {d : Array Int} : ((rw1 d).all fun r => r.length == 1) = true := all_int .u32 d.toList
theorem swp_comm {d : Array Int} {i j : Nat} (hi : i < d.size) (hj : j < d.size) : Sort.swp d i j = Sort.swp d j i := by
  unfold Sort.swp
  by_cases e : i = j
  · subst e; rfl
  · rw [Array.setIfInBounds_comm _ _ e]
abbrev lt1 := Sort.ltInt
theorem lt1_eq (a b : Int) : ltI a b = lt1 a b := rfl
theorem castLt {a b : Nat} : ((a : Int) < (b : Int)) ↔ a < b := Int.ofNat_lt
theorem castGt {a b : Nat} : ((a : Int) > (b : Int)) ↔ a > b := Int.ofNat_lt
theorem wrap_pred1 {j : Nat} (h : j < 1000000000000000000) : IntKind.i64.wrap (((j + 1 : Nat) : Int) - 1) = (j : Int) := by
  rw [wrap_i64 (by omega) (by omega)]
  omega
theorem insInner_size {a : Nat} : ∀ {j : Nat} {d : Array Int}, (Sort.insInner lt1 a j d).size = d.size
  | 0, d => rfl
  | j + 1, d => by
    simp only [Sort.insInner]
    split
    · rw [insInner_size, swp_size]
    · rfl
theorem lim204 (d : Array Int) (a b n : Nat) (c : Option Nat) (hn : n = d.size) (hb : b ≤ d.size) (hs : d.size < 1000000000) (ha : a ≤ d.size) : lim T fns 204 [.ms 0 1 0 n c, .int .i64 a, .int .i64 b] [ob1 d] = some (.tup [], [some (ob1 (Sort.insertionSort lt1 d a b))]) := by
  subst hn
  refine fn_rule (fn := fn204) rfl rfl (by simp [fn204]) ?_
  unfold fn204
  simp only [Try.f204, Option.getD_some, argEnv, List.map_nil, List.length_nil]
  simp only [go_sem, T_3, T_42, T_76, wrap_i64s (show a < 1000000000000000000 by omega)]
  unfold Sort.insertionSort
  refine loop_rule (ι := Nat × Array Int) (S := fun p => ⟨[(0, .ms 0 1 0 d.size c), (1, .int .i64 a), (2, .int .i64 b), (6, .int .i64 p.1)], [some (ob1 p.2)]⟩) (m := fun p => d.size + 2 - p.1)
    (I := fun p => p.1 ≤ d.size + 1 ∧ a + 1 ≤ p.1 ∧ p.2.size = d.size ∧ Sort.insOuter lt1 a b p.1 p.2 = Sort.insOuter lt1 a b (a + 1) d) ?_ (a + 1, d) _ ⟨by simp only; omega, by simp, rfl, rfl⟩ (by kernel_rfl)
  rintro ⟨i, e⟩ ⟨h1, h2, h3, h4⟩
  simp only at h1 h2 h3 h4
  rw [Sort.insOuter] at h4
  by_cases hib : i < b
  · rw [if_pos hib] at h4
    simp only [go_sem, T_3, T_42, T_76, hib]
    refine loop_rule (ι := Nat × Array Int) (S := fun p => ⟨[(0, .ms 0 1 0 d.size c), (1, .int .i64 a), (2, .int .i64 b), (6, .int .i64 i), (7, .int .i64 p.1)], [some (ob1 p.2)]⟩) (m := fun p => p.1)
      (I := fun p => p.1 ≤ i ∧ p.2.size = d.size ∧ Sort.insInner lt1 a p.1 p.2 = Sort.insInner lt1 a i e) ?_ (i, e) _ ⟨Nat.le_refl _, h3, rfl⟩ (by kernel_rfl)
    rintro ⟨j, f⟩ ⟨g1, g2, g3⟩
    simp only at g1 g2 g3
    by_cases hja : a < j
    · obtain ⟨k, rfl⟩ : ∃ k, j = k + 1 := ⟨j - 1, by omega⟩
      have hk1 : k + 1 < f.size := by omega
      have hk0 : k < f.size := by omega
      have hkd : k + 1 < d.size := by omega
      have hkd0 : k < d.size := by omega
      have x1 := rw1_get hk1
      have x0 := rw1_get hk0
      have x2 := rw1_get2 (d := f) (i := k + 1) (j := k) (x := [.int .u32 f[k]!]) hk0 (by omega)
      have xs := rw1_swp hk1 hk0
      have hw := wrap_pred1 (show k < 1000000000000000000 by omega)
      have hgt : ((k + 1 : Nat) : Int) > (a : Int) := by omega
      simp only [Sort.insInner] at g3
      cases hl : lt1 f[k + 1]! f[k]! with
      | false =>
        rw [hl, Bool.and_false, if_neg (by simp)] at g3
        simp only [ob1]
        simp only [go_sem, T_3, T_42, T_76, hgt, hkd, hkd0, x1, x0, hw, call175, lt1_eq, hl, wrap_i64s (show i < 1000000000000000000 by omega)]
        exact ⟨(i + 1, f), ⟨by simp only; omega, by simp only; omega, g2, by simp only; rw [← h4, ← g3]⟩, by simp only; omega, by kernel_rfl⟩
      | true =>
        rw [hl, Bool.and_true, if_pos (by simpa using hja)] at g3
        simp only [ob1]
        simp only [go_sem, T_3, T_42, T_76, hgt, hkd, hkd0, x1, x0, x2, xs, hw, call175, lt1_eq, hl]
        repeat (refine ⟨by kernel_rfl, ?_⟩)
        exact ⟨(k, Sort.swp f (k + 1) k), ⟨by simp only; omega, by rw [swp_size]; exact g2, g3⟩, by simp only; omega, by kernel_rfl⟩
    · have hgt : ¬ (j : Int) > (a : Int) := by omega
      have hin : Sort.insInner lt1 a j f = f := by
        cases j with
        | zero => rfl
        | succ k =>
          simp only [Sort.insInner]
          rw [if_neg]
          simp
          omega
      rw [hin] at g3
      simp only [go_sem, T_3, T_42, T_76, hgt, wrap_i64s (show i < 1000000000000000000 by omega)]
      exact ⟨(i + 1, f), ⟨by simp only; omega, by simp only; omega, g2, by simp only; rw [← h4, ← g3]⟩, by simp only; omega, by kernel_rfl⟩
  · rw [if_neg hib] at h4
    simp only [go_sem, T_3, T_42, T_76, hib]
    rw [← h4]
    show _ = _
    kernel_rfl
end Go.Proofs.Ytfdemnefkfkghaa.R
/- siftDown, heapSort (printed by mksb.py). -/
namespace Go.Proofs.Ytfdemnefkfkghaa.R
open Go Go.Proofs
set_option linter.unusedSimpArgs false
set_option linter.unusedVariables false
set_option maxRecDepth 10000
set_option maxHeartbeats 4000000
theorem wrap_two {r : Nat} (h : r < 100000000000000000) : IntKind.i64.wrap (2 * (r : Int)) = ((2 * r : Nat) : Int) := by
  rw [wrap_i64 (by omega) (by omega)]
  omega
theorem lim228 (d : Array Int) (lo hi first n : Nat) (c : Option Nat) (hn : n = d.size) (hs : d.size < 1000000000) (hf : first + hi ≤ d.size) (hl : lo < 1000000000) : lim T fns 228 [.ms 0 1 0 n c, .int .i64 lo, .int .i64 hi, .int .i64 first] [ob1 d] = some (.tup [], [some (ob1 (Sort.siftDown lt1 hi first lo d))]) := by
  subst hn
  refine fn_rule (fn := fn228) rfl rfl (by simp [fn228]) ?_
  unfold fn228
  simp only [Try.f228, Option.getD_some, argEnv, List.map_nil, List.length_nil]
  simp only [go_sem, T_3, T_4, T_42, T_76]
  refine loop_rule (ι := Nat × Array Int) (S := fun p => ⟨[(0, .ms 0 1 0 d.size c), (2, .int .i64 hi), (3, .int .i64 first), (8, .int .i64 p.1)], [some (ob1 p.2)]⟩) (m := fun p => hi - p.1)
    (I := fun p => p.1 < 1000000000 ∧ p.2.size = d.size ∧ Sort.siftDown lt1 hi first p.1 p.2 = Sort.siftDown lt1 hi first lo d) ?_ (lo, d) _ ⟨hl, rfl, rfl⟩ (by kernel_rfl)
  rintro ⟨r, e⟩ ⟨h1, h2, h3⟩
  simp only at h1 h2 h3
  rw [Sort.siftDown] at h3
  have w1 := wrap_two (r := r) (by omega)
  have w2 := wrap_i64s (n := 2 * r) (by omega)
  have w3 := wrap_i64s (n := 2 * r + 1) (by omega)
  by_cases hc : 2 * r + 1 ≥ hi
  · rw [dif_pos hc] at h3
    have hg : ((2 * r + 1 : Nat) : Int) ≥ (hi : Int) := by omega
    simp only [go_sem, T_3, T_4, T_42, T_76, w1, w2, hg]
    rw [← h3]
    show _ = _
    kernel_rfl
  · rw [dif_neg hc] at h3
    have hg : ¬ ((2 * r + 1 : Nat) : Int) ≥ (hi : Int) := by omega
    by_cases hd : 2 * r + 1 + 1 < hi
    · have j1 : first + (2 * r + 1) < e.size := by omega
      have j2 : first + (2 * r + 1) + 1 < e.size := by omega
      have j1d : first + (2 * r + 1) < d.size := by omega
      have j2d : first + (2 * r + 1) + 1 < d.size := by omega
      have x1 := rw1_get j1
      have x2 := rw1_get j2
      have w4 := wrap_add2 (a := first) (b := 2 * r + 1) (by omega)
      have w5 := wrap_i64s (n := first + (2 * r + 1)) (by omega)
      cases hl2 : lt1 e[first + (2 * r + 1)]! e[first + (2 * r + 1) + 1]! with
      | false =>
        rw [if_neg (by rw [hl2]; simp)] at h3
        have k1 : first + (2 * r + 1) < e.size := by omega
        have k2 : first + r < e.size := by omega
        have k1d : first + (2 * r + 1) < d.size := by omega
        have k2d : first + r < d.size := by omega
        have y1 := rw1_get k1
        have y2 := rw1_get k2
        have y3 := rw1_get2 (d := e) (i := first + r) (j := first + (2 * r + 1)) (x := [.int .u32 e[first + (2 * r + 1)]!]) k1 (by omega)
        have y4 := rw1_swp k2 k1
        have v1 := wrap_add2 (a := first) (b := r) (by omega)
        have v2 := wrap_add2 (a := first) (b := 2 * r + 1) (by omega)
        cases hm : lt1 e[first + r]! e[first + (2 * r + 1)]! with
        | false =>
          have h5 : e = Sort.siftDown lt1 hi first lo d := by
            rw [← h3]
            exact (if_pos (by rw [hm]; rfl)).symm
          simp only [ob1]
          simp only [go_sem, T_3, T_4, T_42, T_76, w1, w2, w3, hg, hd, j1d, j2d, x1, x2, w4, w5, hl2, k1d, k2d, y1, y2, v1, v2, call175, lt1_eq, hm]
          rw [← h5]
          show _ = _
          kernel_rfl
        | true =>
          have h5 : Sort.siftDown lt1 hi first (2 * r + 1) (Sort.swp e (first + r) (first + (2 * r + 1))) = Sort.siftDown lt1 hi first lo d := by
            rw [← h3]
            rw [if_neg (by rw [hm]; simp)]
          simp only [ob1]
          simp only [go_sem, T_3, T_4, T_42, T_76, w1, w2, w3, hg, hd, j1d, j2d, x1, x2, w4, w5, hl2, k1d, k2d, y1, y2, y3, y4, v1, v2, call175, lt1_eq, hm]
          repeat (refine ⟨by kernel_rfl, ?_⟩)
          exact ⟨(2 * r + 1, Sort.swp e (first + r) (first + (2 * r + 1))), ⟨by simp only; omega, by simp only; rw [swp_size]; exact h2, h5⟩, by simp only; omega, by kernel_rfl⟩
      | true =>
        rw [if_pos (by rw [hl2]; simpa using hd)] at h3
        have k1 : first + (2 * r + 1 + 1) < e.size := by omega
        have k2 : first + r < e.size := by omega
        have k1d : first + (2 * r + 1 + 1) < d.size := by omega
        have k2d : first + r < d.size := by omega
        have y1 := rw1_get k1
        have y2 := rw1_get k2
        have y3 := rw1_get2 (d := e) (i := first + r) (j := first + (2 * r + 1 + 1)) (x := [.int .u32 e[first + (2 * r + 1 + 1)]!]) k1 (by omega)
        have y4 := rw1_swp k2 k1
        have v1 := wrap_add2 (a := first) (b := r) (by omega)
        have v2 := wrap_add2 (a := first) (b := 2 * r + 1 + 1) (by omega)
        cases hm : lt1 e[first + r]! e[first + (2 * r + 1 + 1)]! with
        | false =>
          have h5 : e = Sort.siftDown lt1 hi first lo d := by
            rw [← h3]
            exact (if_pos (by rw [show (2 * r + 2) = 2 * r + 1 + 1 from rfl, hm]; rfl)).symm
          simp only [ob1]
          simp only [go_sem, T_3, T_4, T_42, T_76, w1, w2, w3, hg, hd, j1d, j2d, x1, x2, w4, w5, hl2, k1d, k2d, y1, y2, v1, v2, call175, lt1_eq, hm]
          rw [← h5]
          show _ = _
          kernel_rfl
        | true =>
          have h5 : Sort.siftDown lt1 hi first (2 * r + 1 + 1) (Sort.swp e (first + r) (first + (2 * r + 1 + 1))) = Sort.siftDown lt1 hi first lo d := by
            rw [← h3]
            rw [if_neg (by rw [show (2 * r + 2) = 2 * r + 1 + 1 from rfl, hm]; simp), dif_pos (show 2 * r + 2 < hi by omega)]
          simp only [ob1]
          simp only [go_sem, T_3, T_4, T_42, T_76, w1, w2, w3, hg, hd, j1d, j2d, x1, x2, w4, w5, hl2, k1d, k2d, y1, y2, y3, y4, v1, v2, call175, lt1_eq, hm]
          repeat (refine ⟨by kernel_rfl, ?_⟩)
          exact ⟨(2 * r + 1 + 1, Sort.swp e (first + r) (first + (2 * r + 1 + 1))), ⟨by simp only; omega, by simp only; rw [swp_size]; exact h2, h5⟩, by simp only; omega, by kernel_rfl⟩
    · rw [if_neg (by simp; omega)] at h3
      have k1 : first + (2 * r + 1) < e.size := by omega
      have k2 : first + r < e.size := by omega
      have k1d : first + (2 * r + 1) < d.size := by omega
      have k2d : first + r < d.size := by omega
      have y1 := rw1_get k1
      have y2 := rw1_get k2
      have y3 := rw1_get2 (d := e) (i := first + r) (j := first + (2 * r + 1)) (x := [.int .u32 e[first + (2 * r + 1)]!]) k1 (by omega)
      have y4 := rw1_swp k2 k1
      have v1 := wrap_add2 (a := first) (b := r) (by omega)
      have v2 := wrap_add2 (a := first) (b := 2 * r + 1) (by omega)
      cases hm : lt1 e[first + r]! e[first + (2 * r + 1)]! with
      | false =>
        have h5 : e = Sort.siftDown lt1 hi first lo d := by
          rw [← h3]
          exact (if_pos (by rw [hm]; rfl)).symm
        simp only [ob1]
        simp only [go_sem, T_3, T_4, T_42, T_76, w1, w2, w3, hg, hd, k1d, k2d, y1, y2, v1, v2, call175, lt1_eq, hm]
        rw [← h5]
        show _ = _
        kernel_rfl
      | true =>
        have h5 : Sort.siftDown lt1 hi first (2 * r + 1) (Sort.swp e (first + r) (first + (2 * r + 1))) = Sort.siftDown lt1 hi first lo d := by
          rw [← h3]
          rw [if_neg (by rw [hm]; simp)]
        simp only [ob1]
        simp only [go_sem, T_3, T_4, T_42, T_76, w1, w2, w3, hg, hd, k1d, k2d, y1, y2, y3, y4, v1, v2, call175, lt1_eq, hm]
        repeat (refine ⟨by kernel_rfl, ?_⟩)
        exact ⟨(2 * r + 1, Sort.swp e (first + r) (first + (2 * r + 1))), ⟨by simp only; omega, by simp only; rw [swp_size]; exact h2, h5⟩, by simp only; omega, by kernel_rfl⟩
end Go.Proofs.Ytfdemnefkfkghaa.R
/- heapSort, reverseRange, order2, median, medianAdjacent, choosePivot. -/
namespace Go.Proofs.Ytfdemnefkfkghaa.R
open Go Go.Proofs
set_option linter.unusedSimpArgs false
set_option linter.unusedVariables false
set_option maxRecDepth 10000
set_option maxHeartbeats 4000000
theorem call204 (d : Array Int) (a b n : Nat) (c : Option Nat) (hn : n = d.size) (hb : b ≤ d.size) (hs : d.size < 1000000000) (ha : a ≤ d.size) (n : Nat) (hm : 1 ≤ n) (rest : Heap) : (callV (LX T fns) n (.clo 204 []) [.ms 0 1 0 d.size c, .int .i64 a, .int .i64 b]).run (some (.buf 1 (rw1 d) false true) :: rest) [] =
    some ((.tup [], [(0, some (.buf 1 (rw1 (Sort.insertionSort lt1 d a b)) false true))]), [0]) := by
  have h := lim204 d a b _ c rfl hb hs ha
  simp only [ob1] at h
  have hf : fns 204 = some fn204 := rfl
  unfold callV
  simp only [hf]
  unfold callR
  simp only [fn204, List.cons_append, List.nil_append, List.append_nil, frzArgs, frz, frzAll, frzG, frzGAll, ms2, msUp, List.tail]
  simp only [V.allIds, V.ids, List.append_nil, List.nil_append, collect, List.map_nil, List.contains_nil, Bool.false_eq_true, if_false, Rd.run, Heap.at?, Ob.ids, rowsIds, List.map_cons, List.cons_append, List.contains_cons, Nat.reduceBEq, Bool.or_self, Bool.or_false, Bool.false_or, Bool.or_true, Bool.true_or, if_true]
  unfold withR
  simp only [List.map_cons, List.map_nil, upd1, List.all_nil, List.all_cons, show 0 < n by omega, decide_true, Bool.and_self, if_true, V.reAll, V.re, idx, Nat.beq, cond_true, cond_false, Option.bind_some, Option.map_some, pullObs, Ob.re, reRows, Nat.reduceAdd, h, List.length_cons, List.length_nil, Nat.le_refl]
  unfold afterR
  simp only [V.re, V.reAll, pushObs, back, nth, Ob.re, reRows, Option.bind_some, Option.map_some, List.isEmpty_cons, Bool.false_and, Bool.false_eq_true, if_false, Rd.run, List.append_nil, Nat.reduceAdd]
theorem call228 (d : Array Int) (lo hi first : Nat) (c : Option Nat) (k : Nat) (hk : k = d.size) (hs : d.size < 1000000000) (hf : first + hi ≤ d.size) (hl : lo < 1000000000) (n : Nat) (hm : 1 ≤ n) (rest : Heap) : (callV (LX T fns) n (.clo 228 []) [.ms 0 1 0 k c, .int .i64 lo, .int .i64 hi, .int .i64 first]).run (some (.buf 1 (rw1 d) false true) :: rest) [] =
    some ((.tup [], [(0, some (.buf 1 (rw1 (Sort.siftDown lt1 hi first lo d)) false true))]), [0]) := by
  have h := lim228 d lo hi first k c hk hs hf hl
  simp only [ob1] at h
  have hf : fns 228 = some fn228 := rfl
  unfold callV
  simp only [hf]
  unfold callR
  simp only [fn228, List.cons_append, List.nil_append, List.append_nil, frzArgs, frz, frzAll, frzG, frzGAll, ms2, msUp, List.tail]
  simp only [V.allIds, V.ids, List.append_nil, List.nil_append, collect, List.map_nil, List.contains_nil, Bool.false_eq_true, if_false, Rd.run, Heap.at?, Ob.ids, rowsIds, List.map_cons, List.cons_append, List.contains_cons, Nat.reduceBEq, Bool.or_self, Bool.or_false, Bool.false_or, Bool.or_true, Bool.true_or, if_true]
  unfold withR
  simp only [List.map_cons, List.map_nil, upd1, List.all_nil, List.all_cons, show 0 < n by omega, decide_true, Bool.and_self, if_true, V.reAll, V.re, idx, Nat.beq, cond_true, cond_false, Option.bind_some, Option.map_some, pullObs, Ob.re, reRows, Nat.reduceAdd, h, List.length_cons, List.length_nil, Nat.le_refl]
  unfold afterR
  simp only [V.re, V.reAll, pushObs, back, nth, Ob.re, reRows, Option.bind_some, Option.map_some, List.isEmpty_cons, Bool.false_and, Bool.false_eq_true, if_false, Rd.run, List.append_nil, Nat.reduceAdd]
theorem siftDown_size {hi first : Nat} : ∀ (k r : Nat) (d : Array Int), hi - r ≤ k → (Sort.siftDown lt1 hi first r d).size = d.size
  | k, r, d, hk => by
    rw [Sort.siftDown]
    split
    · rfl
    · split
      · split
        · rfl
        · split
          · obtain ⟨k, rfl⟩ : ∃ j, k = j + 1 := ⟨k - 1, by omega⟩
            rw [siftDown_size k _ _ (by omega), swp_size]
          · rfl
      · split
        · rfl
        · obtain ⟨k, rfl⟩ : ∃ j, k = j + 1 := ⟨k - 1, by omega⟩
          rw [siftDown_size k _ _ (by omega), swp_size]
  termination_by k => k
theorem wrap_half {n : Nat} (h : n < 1000000000000000000) : IntKind.i64.wrap ((n : Int).tdiv 2) = ((n / 2 : Nat) : Int) := by
  have e : (n : Int).tdiv 2 = ((n / 2 : Nat) : Int) := rfl
  rw [e, wrap_i64 (by omega) (by omega)]
theorem wrap_m1 {j : Nat} (h : j < 1000000000000000000) : IntKind.i64.wrap ((j : Int) - 1) = (j : Int) - 1 := wrap_i64 (by omega) (by omega)
theorem two0 : ¬ (2 : Int) = 0 := by decide
theorem lim205 (d : Array Int) (a b n : Nat) (c : Option Nat) (hn : n = d.size) (hs : d.size < 1000000000) (hab : a < b) (hb : b ≤ d.size) : lim T fns 205 [.ms 0 1 0 n c, .int .i64 a, .int .i64 b] [ob1 d] = some (.tup [], [some (ob1 (Sort.heapSort lt1 d a b))]) := by
  subst hn
  refine fn_rule (fn := fn205) rfl rfl (by simp [fn205]) ?_
  unfold fn205
  simp only [Try.f205, Option.getD_some, argEnv, List.map_nil, List.length_nil]
  have w1 := wrap_sub (a := b) (b := a) (by omega) (by omega)
  obtain ⟨t, ht⟩ : ∃ t, b - a = t + 1 := ⟨b - a - 1, by omega⟩
  have w2 := wrap_pred1 (j := t) (by omega)
  have w3 := wrap_half (n := t) (by omega)
  rw [ht] at w1
  have hj0 : ∀ j : Nat, ((j + 1 : Nat) : Int) - 1 = (j : Int) := fun j => by omega
  have hz : ¬ ((0 : Nat) : Int) - 1 ≥ 0 := by decide
  simp only [ob1]
  simp only [go_sem, T_3, T_42, T_76, w1, w2, w3, two0]
  refine loop_rule (ι := Int × Nat × Array Int) (S := fun p => ⟨[(0, .ms 0 1 0 d.size c), (6, .int .i64 a), (7, .int .i64 0), (8, .int .i64 ((t + 1 : Nat) : Int)), (9, .int .i64 p.1)], [some (.buf 1 (rw1 p.2.2) false true)]⟩) (m := fun p => p.2.1)
    (I := fun p => p.1 = (p.2.1 : Int) - 1 ∧ p.2.1 ≤ t + 1 ∧ p.2.2.size = d.size ∧ Sort.heapBuild lt1 (b - a) a p.2.1 p.2.2 = Sort.heapBuild lt1 (b - a) a ((b - a - 1) / 2 + 1) d) ?_ (((t / 2 : Nat) : Int), t / 2 + 1, d) _ ⟨by simp only; omega, by simp only; omega, rfl, by simp only [ht]; rfl⟩ (by kernel_rfl)
  rintro ⟨i, k, e⟩ ⟨h1, h2, h3, h4⟩
  simp only at h1 h2 h3 h4
  subst h1
  cases k with
  | succ j =>
    have hg : (j : Int) ≥ 0 := by omega
    have hc := call228 e j (t + 1) a c d.size h3.symm (by omega) (by omega) (by omega)
    have w4 := wrap_m1 (j := j) (by omega)
    have h5 : Sort.heapBuild lt1 (b - a) a j (Sort.siftDown lt1 (t + 1) a j e) = Sort.heapBuild lt1 (b - a) a ((b - a - 1) / 2 + 1) d := by rw [← ht]; exact h4
    simp only [hj0]
    simp only [go_sem, T_3, T_42, T_76, hg, hc, w4]
    exact ⟨((j : Int) - 1, j, Sort.siftDown lt1 (t + 1) a j e), ⟨rfl, by simp only; omega, by simp only; rw [siftDown_size _ _ _ (Nat.le_refl _)]; exact h3, h5⟩, by simp only; omega, by kernel_rfl⟩
  | zero =>
    simp only [go_sem, T_3, T_42, T_76, hz, w2]
    have h4 : e = Sort.heapBuild lt1 (b - a) a ((b - a - 1) / 2 + 1) d := h4
    have h6 : Sort.heapSort lt1 d a b = Sort.heapPop lt1 a (t + 1) e := by rw [h4, Sort.heapSort, ht]
    rw [h6]
    refine loop_rule (ι := Int × Nat × Array Int) (S := fun p => ⟨[(0, .ms 0 1 0 d.size c), (6, .int .i64 a), (7, .int .i64 0), (10, .int .i64 p.1)], [some (.buf 1 (rw1 p.2.2) false true)]⟩) (m := fun p => p.2.1)
      (I := fun p => p.1 = (p.2.1 : Int) - 1 ∧ p.2.1 ≤ t + 1 ∧ p.2.2.size = d.size ∧ Sort.heapPop lt1 a p.2.1 p.2.2 = Sort.heapPop lt1 a (t + 1) e) ?_ ((t : Int), t + 1, e) _ ⟨by simp only; omega, by simp only; omega, h3, rfl⟩ (by kernel_rfl)
    rintro ⟨i, k, f⟩ ⟨g1, g2, g3, g4⟩
    simp only at g1 g2 g3 g4
    subst g1
    cases k with
    | succ j =>
      have hg : (j : Int) ≥ 0 := by omega
      have k1 : a < f.size := by omega
      have k2 : a + j < f.size := by omega
      have k1d : a < d.size := by omega
      have k2d : a + j < d.size := by omega
      have y1 := rw1_get k1
      have y2 := rw1_get k2
      have v1 := wrap_add2 (a := a) (b := j) (by omega)
      have hc : ∀ (n : Nat) (hm : 1 ≤ n) (rest : Heap), (callV (LX T fns) n (.clo 228 []) [.ms 0 1 0 d.size c, .int .i64 0, .int .i64 j, .int .i64 a]).run (some (.buf 1 (rw1 (Sort.swp f a (a + j))) false true) :: rest) [] = some ((.tup [], [(0, some (.buf 1 (rw1 (Sort.siftDown lt1 j a 0 (Sort.swp f a (a + j)))) false true))]), [0]) :=
        fun n hm rest => call228 (Sort.swp f a (a + j)) 0 j a c d.size (by rw [swp_size]; exact g3.symm) (by rw [swp_size]; omega) (by rw [swp_size]; omega) (by omega) n hm rest
      have y4 := rw1_swp k1 k2
      have w4 := wrap_m1 (j := j) (by omega)
      have y3 : ∃ r, ((rw1 f).set a [.int .u32 f[a + j]!])[a + j]? = some [r] := by
        by_cases hz : a = a + j
        · rw [← hz, List.getElem?_set_self (by rw [rw1_len]; omega)]
          exact ⟨_, rfl⟩
        · exact ⟨_, rw1_get2 k2 hz⟩
      obtain ⟨r3, y3⟩ := y3
      simp only [hj0]
      simp only [go_sem, T_3, T_42, T_76, hg, hc, w4, k1d, k2d, y1, y2, y3, y4, v1]
      repeat (refine ⟨by kernel_rfl, ?_⟩)
      exact ⟨((j : Int) - 1, j, Sort.siftDown lt1 j a 0 (Sort.swp f a (a + j))), ⟨rfl, by simp only; omega, by simp only; rw [siftDown_size _ _ _ (Nat.le_refl _), swp_size]; exact g3, g4⟩, by simp only; omega, by kernel_rfl⟩
    | zero =>
      simp only [go_sem, T_3, T_42, T_76, hz]
      have g4 : f = Sort.heapPop lt1 a (t + 1) e := g4
      rw [← g4]
      show _ = _
      kernel_rfl
theorem lim208 (d : Array Int) (a b n : Nat) (c : Option Nat) (hn : n = d.size) (hs : d.size < 1000000000) (hab : a < b) (hb : b ≤ d.size) : lim T fns 208 [.ms 0 1 0 n c, .int .i64 a, .int .i64 b] [ob1 d] = some (.tup [], [some (ob1 (Sort.reverseRange d a b))]) := by
  subst hn
  refine fn_rule (fn := fn208) rfl rfl (by simp [fn208]) ?_
  unfold fn208
  simp only [Try.f208, Option.getD_some, argEnv, List.map_nil, List.length_nil]
  obtain ⟨t, rfl⟩ : ∃ t, b = t + 1 := ⟨b - 1, by omega⟩
  have w2 := wrap_pred1 (j := t) (by omega)
  simp only [ob1]
  simp only [go_sem, T_3, T_42, T_76, w2]
  refine loop_rule (ι := Nat × Nat × Array Int) (S := fun p => ⟨[(0, .ms 0 1 0 d.size c), (6, .int .i64 p.1), (7, .int .i64 p.2.1)], [some (.buf 1 (rw1 p.2.2) false true)]⟩) (m := fun p => p.2.1)
    (I := fun p => p.1 ≤ d.size ∧ p.2.1 < d.size ∧ p.2.2.size = d.size ∧ Sort.reverseLoop p.1 p.2.1 p.2.2 = Sort.reverseRange d a (t + 1)) ?_ (a, t, d) _ ⟨by simp only; omega, by simp only; omega, rfl, rfl⟩ (by kernel_rfl)
  rintro ⟨i, j, e⟩ ⟨h1, h2, h3, h4⟩
  simp only at h1 h2 h3 h4
  rw [Sort.reverseLoop] at h4
  by_cases hij : i < j
  · rw [if_pos hij] at h4
    obtain ⟨k, rfl⟩ : ∃ k, j = k + 1 := ⟨j - 1, by omega⟩
    have k1 : i < e.size := by omega
    have k2 : k + 1 < e.size := by omega
    have k1d : i < d.size := by omega
    have k2d : k + 1 < d.size := by omega
    have y1 := rw1_get k1
    have y2 := rw1_get k2
    have y3 := rw1_get2 (d := e) (i := i) (j := k + 1) (x := [.int .u32 e[k + 1]!]) k2 (by omega)
    have y4 := rw1_swp k1 k2
    have w4 := wrap_pred1 (j := k) (by omega)
    have w5 := wrap_i64s (n := i) (by omega)
    simp only [go_sem, T_3, T_42, T_76, hij, k1d, k2d, y1, y2, y3, y4, w4, w5]
    repeat (refine ⟨by kernel_rfl, ?_⟩)
    exact ⟨(i + 1, k, Sort.swp e i (k + 1)), ⟨by simp only; omega, by simp only; omega, by simp only; rw [swp_size]; exact h3, h4⟩, by simp only; omega, by kernel_rfl⟩
  · rw [if_neg hij] at h4
    simp only [go_sem, T_3, T_42, T_76, hij]
    rw [← h4]
    show _ = _
    kernel_rfl
/-- What '*swaps' is. -/
def bx1 (s : Nat) : Ob := .buf 1 [[.int .i64 s]] false true
theorem lim240 (d : Array Int) (a b s n : Nat) (c : Option Nat) (hn : n = d.size) (ha : a < d.size) (hb : b < d.size) (hs : s < 1000000000) : lim T fns 240 [.ms 0 1 0 n c, .int .i64 a, .int .i64 b, .ptr 1 0 0] [ob1 d, bx1 s] =
    some (.tup [.int .i64 (Sort.order2 lt1 d a b s).1, .int .i64 (Sort.order2 lt1 d a b s).2.1], [some (ob1 d), some (bx1 (Sort.order2 lt1 d a b s).2.2)]) := by
  subst hn
  refine fn_rule (fn := fn240) rfl rfl (by simp [fn240]) ?_
  unfold fn240
  simp only [Try.f240, Option.getD_some, argEnv, List.map_nil, List.length_nil]
  have x1 := rw1_get ha
  have x2 := rw1_get hb
  have w1 := wrap_i64s (n := s) (by omega)
  simp only [ob1, bx1]
  unfold Sort.order2
  cases hl : lt1 d[b]! d[a]! with
  | false =>
    simp only [go_sem, T_3, T_42, T_76, x1, x2, ha, hb, call175, lt1_eq, hl, nilCheckR]
    show _ = _
    kernel_rfl
  | true =>
    simp only [go_sem, T_3, T_42, T_76, x1, x2, ha, hb, call175, lt1_eq, hl, nilCheckR, w1]
    show _ = _
    kernel_rfl
theorem call240 (d : Array Int) (a b s k : Nat) (c : Option Nat) (hk : k = d.size) (ha : a < d.size) (hb : b < d.size) (hs : s < 1000000000) (n : Nat) (hm : 2 ≤ n) (rest : Heap) : (callV (LX T fns) n (.clo 240 []) [.ms 0 1 0 k c, .int .i64 a, .int .i64 b, .ptr 1 0 0]).run (some (.buf 1 (rw1 d) false true) :: some (.buf 1 [[.int .i64 s]] false true) :: rest) [] =
    some ((.tup [.int .i64 (Sort.order2 lt1 d a b s).1, .int .i64 (Sort.order2 lt1 d a b s).2.1], [(0, some (.buf 1 (rw1 d) false true)), (1, some (.buf 1 [[.int .i64 (Sort.order2 lt1 d a b s).2.2]] false true))]), [1, 0]) := by
  have h := lim240 d a b s k c hk ha hb hs
  simp only [ob1, bx1] at h
  have hf : fns 240 = some fn240 := rfl
  unfold callV
  simp only [hf]
  unfold callR
  simp only [fn240, List.cons_append, List.nil_append, List.append_nil, frzArgs, frz, frzAll, frzG, frzGAll, ms2, msUp, List.tail]
  simp only [V.allIds, V.ids, List.append_nil, List.nil_append, collect, List.map_nil, List.contains_nil, Bool.false_eq_true, if_false, Rd.run, Heap.at?, Ob.ids, rowsIds, List.map_cons, List.cons_append, List.contains_cons, Nat.reduceBEq, Bool.or_self, Bool.or_false, Bool.false_or, Bool.or_true, Bool.true_or, if_true]
  unfold withR
  simp only [List.map_cons, List.map_nil, upd1, List.all_nil, List.all_cons, show 0 < n by omega, show 1 < n by omega, decide_true, Bool.and_self, if_true, V.reAll, V.re, idx, Nat.beq, cond_true, cond_false, Option.bind_some, Option.map_some, pullObs, Ob.re, reRows, Nat.reduceAdd, h, List.length_cons, List.length_nil, Nat.le_refl]
  unfold afterR
  simp only [V.re, V.reAll, pushObs, back, nth, Ob.re, reRows, Option.bind_some, Option.map_some, List.isEmpty_cons, Bool.false_and, Bool.false_eq_true, if_false, Rd.run, List.append_nil, Nat.reduceAdd]
theorem order2_lt {d : Array Int} {a b s m : Nat} (ha : a < m) (hb : b < m) : (Sort.order2 lt1 d a b s).1 < m ∧ (Sort.order2 lt1 d a b s).2.1 < m ∧ (Sort.order2 lt1 d a b s).2.2 ≤ s + 1 := by
  unfold Sort.order2
  split <;> exact ⟨by assumption, by assumption, by simp only; omega⟩
theorem lim232 (d : Array Int) (a b e s n : Nat) (c : Option Nat) (hn : n = d.size) (ha : a < d.size) (hb : b < d.size) (he : e < d.size) (hs : s < 100000000) : lim T fns 232 [.ms 0 1 0 n c, .int .i64 a, .int .i64 b, .int .i64 e, .ptr 1 0 0] [ob1 d, bx1 s] =
    some (.int .i64 (Sort.median lt1 d a b e s).1, [some (ob1 d), some (bx1 (Sort.median lt1 d a b e s).2)]) := by
  subst hn
  refine fn_rule (fn := fn232) rfl rfl (by simp [fn232]) ?_
  unfold fn232
  simp only [Try.f232, Option.getD_some, argEnv, List.map_nil, List.length_nil]
  unfold Sort.median
  obtain ⟨p1, p2, p3⟩ := order2_lt (d := d) (s := s) ha hb
  have c1 := fun (n : Nat) (hm : 2 ≤ n) (rest : Heap) => call240 d a b s d.size c rfl ha hb (by omega) n hm rest
  generalize Sort.order2 lt1 d a b s = r1 at *
  obtain ⟨q1, q2, q3⟩ := order2_lt (d := d) (s := r1.2.2) p2 he
  have c2 := fun (n : Nat) (hm : 2 ≤ n) (rest : Heap) => call240 d r1.2.1 e r1.2.2 d.size c rfl p2 he (by omega) n hm rest
  generalize Sort.order2 lt1 d r1.2.1 e r1.2.2 = r2 at *
  have c3 := fun (n : Nat) (hm : 2 ≤ n) (rest : Heap) => call240 d r1.1 r2.1 r2.2.2 d.size c rfl p1 q1 (by omega) n hm rest
  generalize Sort.order2 lt1 d r1.1 r2.1 r2.2.2 = r3 at *
  simp only [ob1, bx1]
  simp only [go_sem, T_3, T_42, T_76, T_279, c1, c2, c3]
  show _ = _
  kernel_rfl
theorem call232 (d : Array Int) (a b e s k : Nat) (c : Option Nat) (hk : k = d.size) (ha : a < d.size) (hb : b < d.size) (he : e < d.size) (hs : s < 100000000) (n : Nat) (hm : 2 ≤ n) (rest : Heap) : (callV (LX T fns) n (.clo 232 []) [.ms 0 1 0 k c, .int .i64 a, .int .i64 b, .int .i64 e, .ptr 1 0 0]).run (some (.buf 1 (rw1 d) false true) :: some (.buf 1 [[.int .i64 s]] false true) :: rest) [] =
    some ((.int .i64 (Sort.median lt1 d a b e s).1, [(0, some (.buf 1 (rw1 d) false true)), (1, some (.buf 1 [[.int .i64 (Sort.median lt1 d a b e s).2]] false true))]), [1, 0]) := by
  have h := lim232 d a b e s k c hk ha hb he hs
  simp only [ob1, bx1] at h
  have hf : fns 232 = some fn232 := rfl
  unfold callV
  simp only [hf]
  unfold callR
  simp only [fn232, List.cons_append, List.nil_append, List.append_nil, frzArgs, frz, frzAll, frzG, frzGAll, ms2, msUp, List.tail]
  simp only [V.allIds, V.ids, List.append_nil, List.nil_append, collect, List.map_nil, List.contains_nil, Bool.false_eq_true, if_false, Rd.run, Heap.at?, Ob.ids, rowsIds, List.map_cons, List.cons_append, List.contains_cons, Nat.reduceBEq, Bool.or_self, Bool.or_false, Bool.false_or, Bool.or_true, Bool.true_or, if_true]
  unfold withR
  simp only [List.map_cons, List.map_nil, upd1, List.all_nil, List.all_cons, show 0 < n by omega, show 1 < n by omega, decide_true, Bool.and_self, if_true, V.reAll, V.re, idx, Nat.beq, cond_true, cond_false, Option.bind_some, Option.map_some, pullObs, Ob.re, reRows, Nat.reduceAdd, h, List.length_cons, List.length_nil, Nat.le_refl]
  unfold afterR
  simp only [V.re, V.reAll, pushObs, back, nth, Ob.re, reRows, Option.bind_some, Option.map_some, List.isEmpty_cons, Bool.false_and, Bool.false_eq_true, if_false, Rd.run, List.append_nil, Nat.reduceAdd]
theorem lim231 (d : Array Int) (a s n : Nat) (c : Option Nat) (hn : n = d.size) (h0 : 0 < a) (ha : a + 1 < d.size) (hb : d.size < 1000000000) (hs : s < 100000000) : lim T fns 231 [.ms 0 1 0 n c, .int .i64 a, .ptr 1 0 0] [ob1 d, bx1 s] =
    some (.int .i64 (Sort.medianAdjacent lt1 d a s).1, [some (ob1 d), some (bx1 (Sort.medianAdjacent lt1 d a s).2)]) := by
  subst hn
  obtain ⟨a, rfl⟩ : ∃ k, a = k + 1 := ⟨a - 1, by omega⟩
  refine fn_rule (fn := fn231) rfl rfl (by simp [fn231]) ?_
  unfold fn231
  simp only [Try.f231, Option.getD_some, argEnv, List.map_nil, List.length_nil]
  unfold Sort.medianAdjacent
  have c1 := fun (n : Nat) (hm : 2 ≤ n) (rest : Heap) => call232 d a (a + 1) (a + 1 + 1) s d.size c rfl (by omega) (by omega) (by omega) (by omega) n hm rest
  have w1 := wrap_pred1 (j := a) (by omega)
  have w2 := wrap_i64s (n := a + 1) (by omega)
  simp only [ob1, bx1, Nat.add_sub_cancel]
  simp only [go_sem, T_3, T_42, T_76, T_279, w1, w2, c1]
  show _ = _
  kernel_rfl
theorem call231 (d : Array Int) (a s k : Nat) (c : Option Nat) (hk : k = d.size) (h0 : 0 < a) (ha : a + 1 < d.size) (hb : d.size < 1000000000) (hs : s < 100000000) (n : Nat) (hm : 2 ≤ n) (rest : Heap) : (callV (LX T fns) n (.clo 231 []) [.ms 0 1 0 k c, .int .i64 a, .ptr 1 0 0]).run (some (.buf 1 (rw1 d) false true) :: some (.buf 1 [[.int .i64 s]] false true) :: rest) [] =
    some ((.int .i64 (Sort.medianAdjacent lt1 d a s).1, [(0, some (.buf 1 (rw1 d) false true)), (1, some (.buf 1 [[.int .i64 (Sort.medianAdjacent lt1 d a s).2]] false true))]), [1, 0]) := by
  have h := lim231 d a s k c hk h0 ha hb hs
  simp only [ob1, bx1] at h
  have hf : fns 231 = some fn231 := rfl
  unfold callV
  simp only [hf]
  unfold callR
  simp only [fn231, List.cons_append, List.nil_append, List.append_nil, frzArgs, frz, frzAll, frzG, frzGAll, ms2, msUp, List.tail]
  simp only [V.allIds, V.ids, List.append_nil, List.nil_append, collect, List.map_nil, List.contains_nil, Bool.false_eq_true, if_false, Rd.run, Heap.at?, Ob.ids, rowsIds, List.map_cons, List.cons_append, List.contains_cons, Nat.reduceBEq, Bool.or_self, Bool.or_false, Bool.false_or, Bool.or_true, Bool.true_or, if_true]
  unfold withR
  simp only [List.map_cons, List.map_nil, upd1, List.all_nil, List.all_cons, show 0 < n by omega, show 1 < n by omega, decide_true, Bool.and_self, if_true, V.reAll, V.re, idx, Nat.beq, cond_true, cond_false, Option.bind_some, Option.map_some, pullObs, Ob.re, reRows, Nat.reduceAdd, h, List.length_cons, List.length_nil, Nat.le_refl]
  unfold afterR
  simp only [V.re, V.reAll, pushObs, back, nth, Ob.re, reRows, Option.bind_some, Option.map_some, List.isEmpty_cons, Bool.false_and, Bool.false_eq_true, if_false, Rd.run, List.append_nil, Nat.reduceAdd]
end Go.Proofs.Ytfdemnefkfkghaa.R
/- choosePivot. -/
namespace Go.Proofs.Ytfdemnefkfkghaa.R
open Go Go.Proofs
set_option linter.unusedSimpArgs false
set_option linter.unusedVariables false
set_option maxRecDepth 10000
set_option maxHeartbeats 4000000
theorem wrap_quart {n : Nat} (h : n < 1000000000000000000) : IntKind.i64.wrap ((n : Int).tdiv 4) = ((n / 4 : Nat) : Int) := by
  have e : (n : Int).tdiv 4 = ((n / 4 : Nat) : Int) := rfl
  rw [e, wrap_i64 (by omega) (by omega)]
theorem wrap_x1 {n : Nat} (h : n < 100000000000000000) : IntKind.i64.wrap ((n : Int) * 1) = ((n * 1 : Nat) : Int) := by
  rw [wrap_i64 (by omega) (by omega)]
  omega
theorem wrap_x2 {n : Nat} (h : n < 100000000000000000) : IntKind.i64.wrap ((n : Int) * 2) = ((n * 2 : Nat) : Int) := by
  rw [wrap_i64 (by omega) (by omega)]
  omega
theorem wrap_x3 {n : Nat} (h : n < 100000000000000000) : IntKind.i64.wrap ((n : Int) * 3) = ((n * 3 : Nat) : Int) := by
  rw [wrap_i64 (by omega) (by omega)]
  omega
theorem twelve0 : ¬ (12 : Int) = 0 := by decide
theorem four0 : ¬ (4 : Int) = 0 := by decide
def hintN : Sort.Hint → Int
  | .unknown => 0
  | .increasing => 1
  | .decreasing => 2
theorem median_lt {d : Array Int} {a b e s m : Nat} (ha : a < m) (hb : b < m) (he : e < m) : (Sort.median lt1 d a b e s).1 < m ∧ (Sort.median lt1 d a b e s).2 ≤ s + 3 := by
  unfold Sort.median
  dsimp only
  obtain ⟨p1, p2, p3⟩ := order2_lt (d := d) (s := s) ha hb
  generalize Sort.order2 lt1 d a b s = r1 at *
  obtain ⟨q1, q2, q3⟩ := order2_lt (d := d) (s := r1.2.2) p2 he
  generalize Sort.order2 lt1 d r1.2.1 e r1.2.2 = r2 at *
  obtain ⟨t1, t2, t3⟩ := order2_lt (d := d) (s := r2.2.2) p1 q1
  exact ⟨t2, by omega⟩
theorem medianAdj_lt {d : Array Int} {a s m : Nat} (h0 : 0 < a) (ha : a + 1 < m) : (Sort.medianAdjacent lt1 d a s).1 < m ∧ (Sort.medianAdjacent lt1 d a s).2 ≤ s + 3 := median_lt (by omega) (by omega) (by omega)
theorem lim207 (d : Array Int) (a b n : Nat) (c : Option Nat) (hn : n = d.size) (hs : d.size < 1000000000) (hab : a + 12 < b) (hb : b ≤ d.size) : lim T fns 207 [.ms 0 1 0 n c, .int .i64 a, .int .i64 b] [ob1 d] =
    some (.tup [.int .i64 (Sort.choosePivot lt1 d a b).1, .int .i64 (hintN (Sort.choosePivot lt1 d a b).2)], [some (ob1 d)]) := by
  subst hn
  refine fn_rule (fn := fn207) rfl rfl (by simp [fn207]) ?_
  unfold fn207
  simp only [Try.f207, Option.getD_some, argEnv, List.map_nil, List.length_nil]
  have w1 := wrap_sub (a := b) (b := a) (by omega) (by omega)
  unfold Sort.choosePivot
  generalize hl : b - a = l at *
  have w2 := wrap_quart (n := l) (by omega)
  have w3 := wrap_x1 (n := l / 4) (by omega)
  have w4 := wrap_x2 (n := l / 4) (by omega)
  have w5 := wrap_x3 (n := l / 4) (by omega)
  have w6 := wrap_add2 (a := a) (b := l / 4 * 1) (by omega)
  have w7 := wrap_add2 (a := a) (b := l / 4 * 2) (by omega)
  have w8 := wrap_add2 (a := a) (b := l / 4 * 3) (by omega)
  have g8 : (l : Int) ≥ 8 := by omega
  simp only [ob1]
  have fin : ∀ r : Nat × Nat, (r.2 = 0 → hintN (if r.2 = 0 then .increasing else if r.2 = 12 then .decreasing else .unknown) = 1) ∧ (r.2 = 12 → hintN (if r.2 = 0 then .increasing else if r.2 = 12 then .decreasing else .unknown) = 2) ∧ (r.2 ≠ 0 → r.2 ≠ 12 → hintN (if r.2 = 0 then .increasing else if r.2 = 12 then .decreasing else .unknown) = 0) := by
    rintro ⟨_, s⟩
    refine ⟨fun h => by simp only at h; subst h; rfl, fun h => by simp only at h; subst h; rfl, fun h1 h2 => by simp only at h1 h2; simp only [if_neg h1, if_neg h2]; rfl⟩
  by_cases h50 : l ≥ 50
  · have g50 : (l : Int) ≥ 50 := by omega
    rw [if_pos (show l ≥ 8 by omega), if_pos h50]
    have m1 := medianAdj_lt (d := d) (a := a + l / 4 * 1) (s := 0) (m := d.size) (by omega) (by omega)
    have c1 : ∀ (n : Nat) (hm : 2 ≤ n) (rest : Heap), (callV (LX T fns) n (.clo 231 []) [.ms 0 1 0 d.size c, .int .i64 ((a + l / 4 * 1 : Nat) : Int), .ptr 1 0 0]).run (some (.buf 1 (rw1 d) false true) :: some (.buf 1 [[.int .i64 0]] false true) :: rest) [] =
        some ((.int .i64 (Sort.medianAdjacent lt1 d (a + l / 4 * 1) 0).1, [(0, some (.buf 1 (rw1 d) false true)), (1, some (.buf 1 [[.int .i64 (Sort.medianAdjacent lt1 d (a + l / 4 * 1) 0).2]] false true))]), [1, 0]) :=
      fun n hm rest => call231 d (a + l / 4 * 1) 0 d.size c rfl (by omega) (by omega) hs (by omega) n hm rest
    generalize Sort.medianAdjacent lt1 d (a + l / 4 * 1) 0 = r1 at *
    have m2 := medianAdj_lt (d := d) (a := a + l / 4 * 2) (s := r1.2) (m := d.size) (by omega) (by omega)
    have c2 := fun (n : Nat) (hm : 2 ≤ n) (rest : Heap) => call231 d (a + l / 4 * 2) r1.2 d.size c rfl (by omega) (by omega) hs (by omega) n hm rest
    generalize Sort.medianAdjacent lt1 d (a + l / 4 * 2) r1.2 = r2 at *
    have m3 := medianAdj_lt (d := d) (a := a + l / 4 * 3) (s := r2.2) (m := d.size) (by omega) (by omega)
    have c3 := fun (n : Nat) (hm : 2 ≤ n) (rest : Heap) => call231 d (a + l / 4 * 3) r2.2 d.size c rfl (by omega) (by omega) hs (by omega) n hm rest
    generalize Sort.medianAdjacent lt1 d (a + l / 4 * 3) r2.2 = r3 at *
    have c4 := fun (n : Nat) (hm : 2 ≤ n) (rest : Heap) => call232 d r1.1 r2.1 r3.1 r3.2 d.size c rfl m1.1 m2.1 m3.1 (by omega) n hm rest
    generalize Sort.median lt1 d r1.1 r2.1 r3.1 r3.2 = r4 at *
    have f := fin r4
    by_cases e0 : r4.2 = 0
    · rw [f.1 e0]
      simp only [go_sem, T_3, T_42, T_76, T_279, w1, w2, w3, w4, w5, w6, w7, w8, four0, g8, g50, c1, c2, c3, c4, e0]
      show _ = _
      kernel_rfl
    · by_cases e12 : r4.2 = 12
      · have e0i : ¬ (r4.2 : Int) = 0 := by omega
        have e12i : (r4.2 : Int) = 12 := by omega
        rw [f.2.1 e12]
        simp only [go_sem, T_3, T_42, T_76, T_279, w1, w2, w3, w4, w5, w6, w7, w8, four0, g8, g50, c1, c2, c3, c4, e0i, e12i, twelve0]
        show _ = _
        kernel_rfl
      · have e12i : ¬ (r4.2 : Int) = 12 := by omega
        rw [f.2.2 e0 e12]
        simp only [go_sem, T_3, T_42, T_76, T_279, w1, w2, w3, w4, w5, w6, w7, w8, four0, g8, g50, c1, c2, c3, c4, e0, e12i]
        show _ = _
        kernel_rfl
  · have g50 : ¬ (l : Int) ≥ 50 := by omega
    rw [if_pos (show l ≥ 8 by omega), if_neg h50]
    have c4 : ∀ (n : Nat) (hm : 2 ≤ n) (rest : Heap), (callV (LX T fns) n (.clo 232 []) [.ms 0 1 0 d.size c, .int .i64 ((a + l / 4 * 1 : Nat) : Int), .int .i64 ((a + l / 4 * 2 : Nat) : Int), .int .i64 ((a + l / 4 * 3 : Nat) : Int), .ptr 1 0 0]).run (some (.buf 1 (rw1 d) false true) :: some (.buf 1 [[.int .i64 0]] false true) :: rest) [] =
        some ((.int .i64 (Sort.median lt1 d (a + l / 4 * 1) (a + l / 4 * 2) (a + l / 4 * 3) 0).1, [(0, some (.buf 1 (rw1 d) false true)), (1, some (.buf 1 [[.int .i64 (Sort.median lt1 d (a + l / 4 * 1) (a + l / 4 * 2) (a + l / 4 * 3) 0).2]] false true))]), [1, 0]) :=
      fun n hm rest => call232 d (a + l / 4 * 1) (a + l / 4 * 2) (a + l / 4 * 3) 0 d.size c rfl (by omega) (by omega) (by omega) (by omega) n hm rest
    generalize Sort.median lt1 d (a + l / 4 * 1) (a + l / 4 * 2) (a + l / 4 * 3) 0 = r4 at *
    have f := fin r4
    by_cases e0 : r4.2 = 0
    · rw [f.1 e0]
      simp only [go_sem, T_3, T_42, T_76, T_279, w1, w2, w3, w4, w5, w6, w7, w8, four0, g8, g50, c4, e0]
      show _ = _
      kernel_rfl
    · by_cases e12 : r4.2 = 12
      · have e12i : (r4.2 : Int) = 12 := by omega
        rw [f.2.1 e12]
        simp only [go_sem, T_3, T_42, T_76, T_279, w1, w2, w3, w4, w5, w6, w7, w8, four0, g8, g50, c4, e12i, twelve0]
        show _ = _
        kernel_rfl
      · have e12i : ¬ (r4.2 : Int) = 12 := by omega
        rw [f.2.2 e0 e12]
        simp only [go_sem, T_3, T_42, T_76, T_279, w1, w2, w3, w4, w5, w6, w7, w8, four0, g8, g50, c4, e0, e12i]
        show _ = _
        kernel_rfl
theorem call207 (d : Array Int) (a b k : Nat) (c : Option Nat) (hk : k = d.size) (hs : d.size < 1000000000) (hab : a + 12 < b) (hb : b ≤ d.size) (n : Nat) (hm : 1 ≤ n) (rest : Heap) : (callV (LX T fns) n (.clo 207 []) [.ms 0 1 0 k c, .int .i64 a, .int .i64 b]).run (some (.buf 1 (rw1 d) false true) :: rest) [] =
    some ((.tup [.int .i64 (Sort.choosePivot lt1 d a b).1, .int .i64 (hintN (Sort.choosePivot lt1 d a b).2)], [(0, some (.buf 1 (rw1 d) false true))]), [0]) := by
  have h := lim207 d a b k c hk hs hab hb
  simp only [ob1] at h
  have hf : fns 207 = some fn207 := rfl
  unfold callV
  simp only [hf]
  unfold callR
  simp only [fn207, List.cons_append, List.nil_append, List.append_nil, frzArgs, frz, frzAll, frzG, frzGAll, ms2, msUp, List.tail]
  simp only [V.allIds, V.ids, List.append_nil, List.nil_append, collect, List.map_nil, List.contains_nil, Bool.false_eq_true, if_false, Rd.run, Heap.at?, Ob.ids, rowsIds, List.map_cons, List.cons_append, List.contains_cons, Nat.reduceBEq, Bool.or_self, Bool.or_false, Bool.false_or, Bool.or_true, Bool.true_or, if_true]
  unfold withR
  simp only [List.map_cons, List.map_nil, upd1, List.all_nil, List.all_cons, show 0 < n by omega, decide_true, Bool.and_self, if_true, V.reAll, V.re, idx, Nat.beq, cond_true, cond_false, Option.bind_some, Option.map_some, pullObs, Ob.re, reRows, Nat.reduceAdd, h, List.length_cons, List.length_nil, Nat.le_refl]
  unfold afterR
  simp only [V.re, V.reAll, pushObs, back, nth, Ob.re, reRows, Option.bind_some, Option.map_some, List.isEmpty_cons, Bool.false_and, Bool.false_eq_true, if_false, Rd.run, List.append_nil, Nat.reduceAdd]
theorem call205 (d : Array Int) (a b k : Nat) (c : Option Nat) (hk : k = d.size) (hs : d.size < 1000000000) (hab : a < b) (hb : b ≤ d.size) (n : Nat) (hm : 1 ≤ n) (rest : Heap) : (callV (LX T fns) n (.clo 205 []) [.ms 0 1 0 k c, .int .i64 a, .int .i64 b]).run (some (.buf 1 (rw1 d) false true) :: rest) [] =
    some ((.tup [], [(0, some (.buf 1 (rw1 (Sort.heapSort lt1 d a b)) false true))]), [0]) := by
  have h := lim205 d a b k c hk hs hab hb
  simp only [ob1] at h
  have hf : fns 205 = some fn205 := rfl
  unfold callV
  simp only [hf]
  unfold callR
  simp only [fn205, List.cons_append, List.nil_append, List.append_nil, frzArgs, frz, frzAll, frzG, frzGAll, ms2, msUp, List.tail]
  simp only [V.allIds, V.ids, List.append_nil, List.nil_append, collect, List.map_nil, List.contains_nil, Bool.false_eq_true, if_false, Rd.run, Heap.at?, Ob.ids, rowsIds, List.map_cons, List.cons_append, List.contains_cons, Nat.reduceBEq, Bool.or_self, Bool.or_false, Bool.false_or, Bool.or_true, Bool.true_or, if_true]
  unfold withR
  simp only [List.map_cons, List.map_nil, upd1, List.all_nil, List.all_cons, show 0 < n by omega, decide_true, Bool.and_self, if_true, V.reAll, V.re, idx, Nat.beq, cond_true, cond_false, Option.bind_some, Option.map_some, pullObs, Ob.re, reRows, Nat.reduceAdd, h, List.length_cons, List.length_nil, Nat.le_refl]
  unfold afterR
  simp only [V.re, V.reAll, pushObs, back, nth, Ob.re, reRows, Option.bind_some, Option.map_some, List.isEmpty_cons, Bool.false_and, Bool.false_eq_true, if_false, Rd.run, List.append_nil, Nat.reduceAdd]
theorem call208 (d : Array Int) (a b k : Nat) (c : Option Nat) (hk : k = d.size) (hs : d.size < 1000000000) (hab : a < b) (hb : b ≤ d.size) (n : Nat) (hm : 1 ≤ n) (rest : Heap) : (callV (LX T fns) n (.clo 208 []) [.ms 0 1 0 k c, .int .i64 a, .int .i64 b]).run (some (.buf 1 (rw1 d) false true) :: rest) [] =
    some ((.tup [], [(0, some (.buf 1 (rw1 (Sort.reverseRange d a b)) false true))]), [0]) := by
  have h := lim208 d a b k c hk hs hab hb
  simp only [ob1] at h
  have hf : fns 208 = some fn208 := rfl
  unfold callV
  simp only [hf]
  unfold callR
  simp only [fn208, List.cons_append, List.nil_append, List.append_nil, frzArgs, frz, frzAll, frzG, frzGAll, ms2, msUp, List.tail]
  simp only [V.allIds, V.ids, List.append_nil, List.nil_append, collect, List.map_nil, List.contains_nil, Bool.false_eq_true, if_false, Rd.run, Heap.at?, Ob.ids, rowsIds, List.map_cons, List.cons_append, List.contains_cons, Nat.reduceBEq, Bool.or_self, Bool.or_false, Bool.false_or, Bool.or_true, Bool.true_or, if_true]
  unfold withR
  simp only [List.map_cons, List.map_nil, upd1, List.all_nil, List.all_cons, show 0 < n by omega, decide_true, Bool.and_self, if_true, V.reAll, V.re, idx, Nat.beq, cond_true, cond_false, Option.bind_some, Option.map_some, pullObs, Ob.re, reRows, Nat.reduceAdd, h, List.length_cons, List.length_nil, Nat.le_refl]
  unfold afterR
  simp only [V.re, V.reAll, pushObs, back, nth, Ob.re, reRows, Option.bind_some, Option.map_some, List.isEmpty_cons, Bool.false_and, Bool.false_eq_true, if_false, Rd.run, List.append_nil, Nat.reduceAdd]
end Go.Proofs.Ytfdemnefkfkghaa.R
/- The partitions (printed by mkse.py). -/
namespace Go.Proofs.Ytfdemnefkfkghaa.R
open Go Go.Proofs
set_option linter.unusedSimpArgs false
set_option linter.unusedVariables false
set_option maxRecDepth 10000
set_option maxHeartbeats 4000000
theorem loop_post {cx : Cx} {fr : Fr} {c : Code} {id : Option Nat} {Q : Aft} {ι : Type} (S : ι → St) (m : ι → Nat) (I : ι → Prop) (i : Nat) (P : St → Prop) (step : ∀ x, I x → W cx fr c none (S x) (LP fr id S m I (fun ex s => ex = .exit i ∧ P s) (m x)))
    (after : ∀ s, P s → Q (.exit i) s) (x : ι) (s : St) (hx : I x) (hh : head fr.keep (gcOf fr.gcs id) s = some (S x)) : W cx fr (.loop c) id s Q :=
  W_mono (fun ex s h => by obtain ⟨e, p⟩ := h; subst e; exact after s p) (loop_rule S m I step x s hx hh)
theorem rw1_set {d : Array Int} {i j : Nat} {x : V} (hj : j < d.size) : ∃ r, ((rw1 d).set i [x])[j]? = some [r] := by
  by_cases h : i = j
  · subst h
    rw [List.getElem?_set_self (by rw [rw1_len]; exact hj)]
    exact ⟨_, rfl⟩
  · exact ⟨_, rw1_get2 hj h⟩
theorem exit0 {i : Nat} {P : Prop} (h : P) : (Ex.exit i = Ex.exit i ∧ P) := ⟨rfl, h⟩
theorem lim211 (d : Array Int) (a b pv n : Nat) (c : Option Nat) (hn : n = d.size) (hs : d.size < 1000000000) (hap : a ≤ pv) (hpb : pv < b) (hab : a + 1 < b) (hb : b ≤ d.size) : lim T fns 211 [.ms 0 1 0 n c, .int .i64 a, .int .i64 b, .int .i64 pv] [ob1 d] =
    some (.tup [.int .i64 (Sort.partition lt1 d a b pv).1, .bool (Sort.partition lt1 d a b pv).2.1], [some (ob1 (Sort.partition lt1 d a b pv).2.2)]) := by
  subst hn
  refine fn_rule (fn := fn211) rfl rfl (by simp [fn211]) ?_
  unfold fn211
  simp only [Try.f211, Option.getD_some, argEnv, List.map_nil, List.length_nil]
  unfold Sort.partition
  dsimp only
  obtain ⟨b, rfl⟩ : ∃ t, b = t + 1 := ⟨b - 1, by omega⟩
  have k1 : a < d.size := by omega
  have k2 : pv < d.size := by omega
  have y1 := rw1_get k1
  have y2 := rw1_get k2
  obtain ⟨r3, y3⟩ := rw1_set (d := d) (i := a) (j := pv) (x := .int .u32 d[pv]!) k2
  have y4 := rw1_swp k1 k2
  have w1 := wrap_i64s (n := a) (by omega)
  have w2 := wrap_pred1 (j := b) (by omega)
  have hez : (Sort.swp d a pv).size = d.size := swp_size
  rw [Nat.add_sub_cancel]
  simp only [ob1]
  simp only [go_sem, T_3, T_4, T_42, T_76, k1, k2, y1, y2, y3, y4, w1, w2]
  repeat (refine ⟨by kernel_rfl, ?_⟩)
  generalize Sort.swp d a pv = e at *
  refine loop_post (ι := Nat) (S := fun x => ⟨[(0, .ms 0 1 0 d.size c), (1, .int .i64 a), (10, .int .i64 x), (11, .int .i64 b)], [some (.buf 1 (rw1 e) false true)]⟩) (m := fun x => b + 1 - x)
    (I := fun x => a < x ∧ x ≤ b + 2 ∧ Sort.scanUp (fun x => lt1 x e[a]!) e b x = Sort.scanUp (fun x => lt1 x e[a]!) e b (a + 1)) 0
    (fun s => ∃ E H, s = ⟨E, some (.buf 1 (rw1 e) false true) :: H⟩ ∧ lk E 0 = .ms 0 1 0 d.size c ∧ lk E 1 = .int .i64 a ∧ lk E 10 = .int .i64 (Sort.scanUp (fun x => lt1 x e[a]!) e b (a + 1) : Nat) ∧ lk E 11 = .int .i64 b ∧ a < Sort.scanUp (fun x => lt1 x e[a]!) e b (a + 1) ∧ Sort.scanUp (fun x => lt1 x e[a]!) e b (a + 1) ≤ b + 2) ?_ ?_ (a + 1) _ ⟨by omega, by omega, rfl⟩ (by kernel_rfl)
  · rintro x ⟨u1, u2, u3⟩
    rw [Sort.scanUp] at u3
    by_cases hij : x ≤ b
    · have hiji : (x : Int) ≤ (b : Int) := by omega
      have k1 : x < e.size := by omega
      have k2 : a < e.size := by omega
      have k1d : x < d.size := by omega
      have k2d : a < d.size := by omega
      have y1 := rw1_get k1
      have y2 := rw1_get k2
      have w1 := wrap_i64s (n := x) (by omega)
      cases hl : lt1 e[x]! e[a]! with
      | true =>
        rw [if_pos (by simp [hl, hij])] at u3
        simp only [go_sem, T_3, T_4, T_42, T_76, hiji, k1d, k2d, y1, y2, w1, call175, lt1_eq, hl]
        exact ⟨x + 1, ⟨by omega, by omega, u3⟩, by simp only; omega, by kernel_rfl⟩
      | false =>
        rw [if_neg (by simp [hl])] at u3
        simp only [go_sem, T_3, T_4, T_42, T_76, hiji, k1d, k2d, y1, y2, w1, call175, lt1_eq, hl]
        refine ⟨_, _, rfl, ?_⟩
        refine ⟨rfl, rfl, ?_, rfl, ?_, ?_⟩ <;> rw [← u3] <;> first | exact u1 | exact u2 | rfl
    · have hiji : ¬ (x : Int) ≤ (b : Int) := by omega
      rw [if_neg (by simp [hij])] at u3
      simp only [go_sem, T_3, T_4, T_42, T_76, hiji]
      refine ⟨_, _, rfl, ?_⟩
      refine ⟨rfl, rfl, ?_, rfl, ?_, ?_⟩ <;> rw [← u3] <;> first | exact u1 | exact u2 | rfl
  · rintro s ⟨E, H, rfl, l0, l1, l2, l3, l4, l5⟩
    simp only [go_sem]
    generalize Sort.scanUp (fun x => lt1 x e[a]!) e b (a + 1) = i at *
    refine loop_post (ι := Nat) (S := fun x => ⟨[(0, .ms 0 1 0 d.size c), (1, .int .i64 a), (10, .int .i64 i), (11, .int .i64 x)], [some (.buf 1 (rw1 e) false true)]⟩) (m := fun x => x)
      (I := fun x => x ≤ b ∧ i ≤ x + 2 ∧ Sort.scanDown (fun x => !lt1 x e[a]!) e i x = Sort.scanDown (fun x => !lt1 x e[a]!) e i b) 2
      (fun s => ∃ E H, s = ⟨E, some (.buf 1 (rw1 e) false true) :: H⟩ ∧ lk E 0 = .ms 0 1 0 d.size c ∧ lk E 1 = .int .i64 a ∧ lk E 10 = .int .i64 i ∧ lk E 11 = .int .i64 (Sort.scanDown (fun x => !lt1 x e[a]!) e i b : Nat) ∧ i ≤ Sort.scanDown (fun x => !lt1 x e[a]!) e i b + 2 ∧ Sort.scanDown (fun x => !lt1 x e[a]!) e i b ≤ b) ?_ ?_ b _ ⟨Nat.le_refl _, by omega, rfl⟩ (by simp only [head, gcOf, Nat.beq, cond_true, cond_false, gc, thaw, live, l0, l1, l2, l3]; kernel_rfl)
    · rintro x ⟨u1, u2, u3⟩
      by_cases hij : i ≤ x
      · obtain ⟨k, rfl⟩ : ∃ k, x = k + 1 := ⟨x - 1, by omega⟩
        rw [Sort.scanDown] at u3
        have hiji : ((i : Nat) : Int) ≤ ((k + 1 : Nat) : Int) := by omega
        have k1 : k + 1 < e.size := by omega
        have k2 : a < e.size := by omega
        have k1d : k + 1 < d.size := by omega
        have k2d : a < d.size := by omega
        have y1 := rw1_get k1
        have y2 := rw1_get k2
        have w1 := wrap_pred1 (j := k) (by omega)
        cases hl : lt1 e[(k + 1)]! e[a]! with
        | false =>
          rw [if_pos (by simp [hl]; omega)] at u3
          simp only [go_sem, T_3, T_4, T_42, T_76, hiji, k1d, k2d, y1, y2, w1, call175, lt1_eq, hl]
          exact ⟨k, ⟨by omega, by omega, u3⟩, by simp only; omega, by kernel_rfl⟩
        | true =>
          rw [if_neg (by simp [hl])] at u3
          simp only [go_sem, T_3, T_4, T_42, T_76, hiji, k1d, k2d, y1, y2, w1, call175, lt1_eq, hl]
          refine ⟨_, _, rfl, ?_⟩
          refine ⟨rfl, rfl, rfl, ?_, ?_, ?_⟩ <;> rw [← u3] <;> first | exact u1 | exact u2 | rfl
      · have hiji : ¬ ((i : Nat) : Int) ≤ (x : Int) := by omega
        have u3 : x = Sort.scanDown (fun x => !lt1 x e[a]!) e i b := by
          rw [← u3]
          cases x with
          | zero => rfl
          | succ k => rw [Sort.scanDown, if_neg (by simp; omega)]
        simp only [go_sem, T_3, T_4, T_42, T_76, hiji]
        refine ⟨_, _, rfl, ?_⟩
        refine ⟨rfl, rfl, rfl, ?_, ?_, ?_⟩ <;> rw [← u3] <;> first | exact u1 | exact u2 | rfl
    · rintro s ⟨E, H, rfl, l0, l1, l2, l3, l4, l5⟩

      generalize Sort.scanDown (fun x => !lt1 x e[a]!) e i b = j at *
      by_cases hgt : i > j
      · have hgti : (i : Int) > (j : Int) := by omega
        rw [if_pos hgt]
        have sk1 : j < e.size := by omega
        have sk2 : a < e.size := by omega
        have sd1 : j < d.size := by omega
        have sd2 : a < d.size := by omega
        have sy1 := rw1_get sk1
        have sy2 := rw1_get sk2
        obtain ⟨sr, sy3⟩ := rw1_set (d := e) (i := j) (j := a) (x := .int .u32 e[a]!) sk2
        have sy4 := rw1_swp sk1 sk2
        simp only [go_sem, T_3, T_4, T_42, T_76, l0, l1, l2, l3, hgti, sd1, sd2, sy1, sy2, sy3, sy4]
        repeat (refine ⟨by kernel_rfl, ?_⟩)
        show _ = _
        kernel_rfl
      · have hgti : ¬ (i : Int) > (j : Int) := by omega
        rw [if_neg hgt]
        obtain ⟨j, rfl⟩ : ∃ t, j = t + 1 := ⟨j - 1, by omega⟩
        have w3 := wrap_i64s (n := i) (by omega)
        have w4 := wrap_pred1 (j := j) (by omega)
        have sk1 : i < e.size := by omega
        have sk2 : (j + 1) < e.size := by omega
        have sd1 : i < d.size := by omega
        have sd2 : (j + 1) < d.size := by omega
        have sy1 := rw1_get sk1
        have sy2 := rw1_get sk2
        obtain ⟨sr, sy3⟩ := rw1_set (d := e) (i := i) (j := (j + 1)) (x := .int .u32 e[(j + 1)]!) sk2
        have sy4 := rw1_swp sk1 sk2
        simp only [go_sem, T_3, T_4, T_42, T_76, l0, l1, l2, l3, hgti, w3, w4, sd1, sd2, sy1, sy2, sy3, sy4]
        repeat (refine ⟨by kernel_rfl, ?_⟩)
        rw [Nat.add_sub_cancel]
        have hez2 : (Sort.swp e i (j + 1)).size = d.size := by rw [swp_size]; exact hez
        generalize Sort.swp e i (j + 1) = e0 at *
        refine loop_rule (ι := Nat × Nat × Array Int) (S := fun p => ⟨[(0, .ms 0 1 0 d.size c), (1, .int .i64 a), (10, .int .i64 p.1), (11, .int .i64 p.2.1)], [some (.buf 1 (rw1 p.2.2) false true)]⟩) (m := fun p => p.2.1 + 1 - p.1)
          (I := fun p => a < p.1 ∧ p.1 ≤ p.2.1 + 2 ∧ p.2.1 ≤ b ∧ p.2.2.size = d.size ∧ Sort.partLoop lt1 a p.1 p.2.1 p.2.2 = Sort.partLoop lt1 a (i + 1) j e0) ?_ (i + 1, j, e0) _ ⟨by simp only; omega, by simp only; omega, by simp only; omega, hez2, rfl⟩ (by simp only [head, gcOf, Nat.beq, cond_true, cond_false, gc, thaw, live, lk, l0, l1, l2, l3]; kernel_rfl)
        rintro ⟨i2, j2, f⟩ ⟨h1, h2, h3, h4, h5⟩
        simp only at h1 h2 h3 h4 h5
        rw [Sort.partLoop_eq] at h5
        have hup := Sort.scanUp_ge (fun x => lt1 x f[a]!) f j2 i2
        simp only [go_sem]
        refine loop_post (ι := Nat) (S := fun x => ⟨[(0, .ms 0 1 0 d.size c), (1, .int .i64 a), (10, .int .i64 x), (11, .int .i64 j2)], [some (.buf 1 (rw1 f) false true)]⟩) (m := fun x => j2 + 1 - x)
          (I := fun x => a < x ∧ x ≤ j2 + 2 ∧ Sort.scanUp (fun x => lt1 x f[a]!) f j2 x = Sort.scanUp (fun x => lt1 x f[a]!) f j2 i2) 6
          (fun s => ∃ E H, s = ⟨E, some (.buf 1 (rw1 f) false true) :: H⟩ ∧ lk E 0 = .ms 0 1 0 d.size c ∧ lk E 1 = .int .i64 a ∧ lk E 10 = .int .i64 (Sort.scanUp (fun x => lt1 x f[a]!) f j2 i2 : Nat) ∧ lk E 11 = .int .i64 j2 ∧ a < Sort.scanUp (fun x => lt1 x f[a]!) f j2 i2 ∧ Sort.scanUp (fun x => lt1 x f[a]!) f j2 i2 ≤ j2 + 2) ?_ ?_ i2 _ ⟨by omega, by omega, rfl⟩ (by kernel_rfl)
        · rintro x ⟨u1, u2, u3⟩
          rw [Sort.scanUp] at u3
          by_cases hij : x ≤ j2
          · have hiji : (x : Int) ≤ (j2 : Int) := by omega
            have k1 : x < f.size := by omega
            have k2 : a < f.size := by omega
            have k1d : x < d.size := by omega
            have k2d : a < d.size := by omega
            have y1 := rw1_get k1
            have y2 := rw1_get k2
            have w1 := wrap_i64s (n := x) (by omega)
            cases hl : lt1 f[x]! f[a]! with
            | true =>
              rw [if_pos (by simp [hl, hij])] at u3
              simp only [go_sem, T_3, T_4, T_42, T_76, hiji, k1d, k2d, y1, y2, w1, call175, lt1_eq, hl]
              exact ⟨x + 1, ⟨by omega, by omega, u3⟩, by simp only; omega, by kernel_rfl⟩
            | false =>
              rw [if_neg (by simp [hl])] at u3
              simp only [go_sem, T_3, T_4, T_42, T_76, hiji, k1d, k2d, y1, y2, w1, call175, lt1_eq, hl]
              refine ⟨_, _, rfl, ?_⟩
              refine ⟨rfl, rfl, ?_, rfl, ?_, ?_⟩ <;> rw [← u3] <;> first | exact u1 | exact u2 | rfl
          · have hiji : ¬ (x : Int) ≤ (j2 : Int) := by omega
            rw [if_neg (by simp [hij])] at u3
            simp only [go_sem, T_3, T_4, T_42, T_76, hiji]
            refine ⟨_, _, rfl, ?_⟩
            refine ⟨rfl, rfl, ?_, rfl, ?_, ?_⟩ <;> rw [← u3] <;> first | exact u1 | exact u2 | rfl
        · rintro s ⟨E, H, rfl, l0, l1, l2, l3, l4, l5⟩
          simp only [go_sem]
          generalize Sort.scanUp (fun x => lt1 x f[a]!) f j2 i2 = i3 at *
          refine loop_post (ι := Nat) (S := fun x => ⟨[(0, .ms 0 1 0 d.size c), (1, .int .i64 a), (10, .int .i64 i3), (11, .int .i64 x)], [some (.buf 1 (rw1 f) false true)]⟩) (m := fun x => x)
            (I := fun x => x ≤ j2 ∧ i3 ≤ x + 2 ∧ Sort.scanDown (fun x => !lt1 x f[a]!) f i3 x = Sort.scanDown (fun x => !lt1 x f[a]!) f i3 j2) 8
            (fun s => ∃ E H, s = ⟨E, some (.buf 1 (rw1 f) false true) :: H⟩ ∧ lk E 0 = .ms 0 1 0 d.size c ∧ lk E 1 = .int .i64 a ∧ lk E 10 = .int .i64 i3 ∧ lk E 11 = .int .i64 (Sort.scanDown (fun x => !lt1 x f[a]!) f i3 j2 : Nat) ∧ i3 ≤ Sort.scanDown (fun x => !lt1 x f[a]!) f i3 j2 + 2 ∧ Sort.scanDown (fun x => !lt1 x f[a]!) f i3 j2 ≤ j2) ?_ ?_ j2 _ ⟨Nat.le_refl _, by omega, rfl⟩ (by simp only [head, gcOf, Nat.beq, cond_true, cond_false, gc, thaw, live, l0, l1, l2, l3]; kernel_rfl)
          · rintro x ⟨u1, u2, u3⟩
            by_cases hij : i3 ≤ x
            · obtain ⟨k, rfl⟩ : ∃ k, x = k + 1 := ⟨x - 1, by omega⟩
              rw [Sort.scanDown] at u3
              have hiji : ((i3 : Nat) : Int) ≤ ((k + 1 : Nat) : Int) := by omega
              have k1 : k + 1 < f.size := by omega
              have k2 : a < f.size := by omega
              have k1d : k + 1 < d.size := by omega
              have k2d : a < d.size := by omega
              have y1 := rw1_get k1
              have y2 := rw1_get k2
              have w1 := wrap_pred1 (j := k) (by omega)
              cases hl : lt1 f[(k + 1)]! f[a]! with
              | false =>
                rw [if_pos (by simp [hl]; omega)] at u3
                simp only [go_sem, T_3, T_4, T_42, T_76, hiji, k1d, k2d, y1, y2, w1, call175, lt1_eq, hl]
                exact ⟨k, ⟨by omega, by omega, u3⟩, by simp only; omega, by kernel_rfl⟩
              | true =>
                rw [if_neg (by simp [hl])] at u3
                simp only [go_sem, T_3, T_4, T_42, T_76, hiji, k1d, k2d, y1, y2, w1, call175, lt1_eq, hl]
                refine ⟨_, _, rfl, ?_⟩
                refine ⟨rfl, rfl, rfl, ?_, ?_, ?_⟩ <;> rw [← u3] <;> first | exact u1 | exact u2 | rfl
            · have hiji : ¬ ((i3 : Nat) : Int) ≤ (x : Int) := by omega
              have u3 : x = Sort.scanDown (fun x => !lt1 x f[a]!) f i3 j2 := by
                rw [← u3]
                cases x with
                | zero => rfl
                | succ k => rw [Sort.scanDown, if_neg (by simp; omega)]
              simp only [go_sem, T_3, T_4, T_42, T_76, hiji]
              refine ⟨_, _, rfl, ?_⟩
              refine ⟨rfl, rfl, rfl, ?_, ?_, ?_⟩ <;> rw [← u3] <;> first | exact u1 | exact u2 | rfl
          · rintro s ⟨E, H, rfl, l0, l1, l2, l3, l4, l5⟩
            generalize Sort.scanDown (fun x => !lt1 x f[a]!) f i3 j2 = j3 at *
            by_cases hgt3 : i3 > j3
            · have hgti3 : (i3 : Int) > (j3 : Int) := by omega
              rw [if_pos hgt3] at h5
              rw [← h5]
              have sk1 : j3 < f.size := by omega
              have sk2 : a < f.size := by omega
              have sd1 : j3 < d.size := by omega
              have sd2 : a < d.size := by omega
              have sy1 := rw1_get sk1
              have sy2 := rw1_get sk2
              obtain ⟨sr, sy3⟩ := rw1_set (d := f) (i := j3) (j := a) (x := .int .u32 f[a]!) sk2
              have sy4 := rw1_swp sk1 sk2
              simp only [go_sem, T_3, T_4, T_42, T_76, l0, l1, l2, l3, hgti3, sd1, sd2, sy1, sy2, sy3, sy4]
              repeat (refine ⟨by kernel_rfl, ?_⟩)
              show _ = _
              kernel_rfl
            · have hgti3 : ¬ (i3 : Int) > (j3 : Int) := by omega
              rw [if_neg hgt3] at h5
              obtain ⟨j3, rfl⟩ : ∃ t, j3 = t + 1 := ⟨j3 - 1, by omega⟩
              rw [Nat.add_sub_cancel] at h5
              have w5 := wrap_i64s (n := i3) (by omega)
              have w6 := wrap_pred1 (j := j3) (by omega)
              have sk1 : i3 < f.size := by omega
              have sk2 : (j3 + 1) < f.size := by omega
              have sd1 : i3 < d.size := by omega
              have sd2 : (j3 + 1) < d.size := by omega
              have sy1 := rw1_get sk1
              have sy2 := rw1_get sk2
              obtain ⟨sr, sy3⟩ := rw1_set (d := f) (i := i3) (j := (j3 + 1)) (x := .int .u32 f[(j3 + 1)]!) sk2
              have sy4 := rw1_swp sk1 sk2
              simp only [go_sem, T_3, T_4, T_42, T_76, l0, l1, l2, l3, hgti3, w5, w6, sd1, sd2, sy1, sy2, sy3, sy4]
              repeat (refine ⟨by kernel_rfl, ?_⟩)
              exact ⟨(i3 + 1, j3, Sort.swp f i3 (j3 + 1)), ⟨by simp only; omega, by simp only; omega, by simp only; omega, by simp only; rw [swp_size]; exact h4, h5⟩, by simp only; omega, by simp only [head, gcOf, Nat.beq, cond_true, cond_false, gc, thaw, live, lk, l0, l1, l2, l3]; kernel_rfl⟩
theorem lim210 (d : Array Int) (a b pv n : Nat) (c : Option Nat) (hn : n = d.size) (hs : d.size < 1000000000) (hap : a ≤ pv) (hpb : pv < b) (hab : a + 1 < b) (hb : b ≤ d.size) : lim T fns 210 [.ms 0 1 0 n c, .int .i64 a, .int .i64 b, .int .i64 pv] [ob1 d] =
    some (.int .i64 (Sort.partitionEqual lt1 d a b pv).1, [some (ob1 (Sort.partitionEqual lt1 d a b pv).2)]) := by
  subst hn
  refine fn_rule (fn := fn210) rfl rfl (by simp [fn210]) ?_
  unfold fn210
  simp only [Try.f210, Option.getD_some, argEnv, List.map_nil, List.length_nil]
  unfold Sort.partitionEqual
  obtain ⟨b, rfl⟩ : ∃ t, b = t + 1 := ⟨b - 1, by omega⟩
  have k1 : a < d.size := by omega
  have k2 : pv < d.size := by omega
  have y1 := rw1_get k1
  have y2 := rw1_get k2
  obtain ⟨r3, y3⟩ := rw1_set (d := d) (i := a) (j := pv) (x := .int .u32 d[pv]!) k2
  have y4 := rw1_swp k1 k2
  have w1 := wrap_i64s (n := a) (by omega)
  have w2 := wrap_pred1 (j := b) (by omega)
  have hez : (Sort.swp d a pv).size = d.size := swp_size
  rw [Nat.add_sub_cancel]
  simp only [ob1]
  simp only [go_sem, T_3, T_4, T_42, T_76, k1, k2, y1, y2, y3, y4, w1, w2]
  repeat (refine ⟨by kernel_rfl, ?_⟩)
  generalize Sort.swp d a pv = e0 at *
  refine loop_rule (ι := Nat × Nat × Array Int) (S := fun p => ⟨[(0, .ms 0 1 0 d.size c), (1, .int .i64 a), (9, .int .i64 p.1), (10, .int .i64 p.2.1)], [some (.buf 1 (rw1 p.2.2) false true)]⟩) (m := fun p => p.2.1 + 1 - p.1)
    (I := fun p => a < p.1 ∧ p.1 ≤ p.2.1 + 2 ∧ p.2.1 ≤ b ∧ p.2.2.size = d.size ∧ Sort.partEqLoop lt1 a p.1 p.2.1 p.2.2 = Sort.partEqLoop lt1 a (a + 1) b e0) ?_ (a + 1, b, e0) _ ⟨by simp only; omega, by simp only; omega, by simp only; omega, hez, rfl⟩ (by kernel_rfl)
  rintro ⟨i2, j2, f⟩ ⟨h1, h2, h3, h4, h5⟩
  simp only at h1 h2 h3 h4 h5
  rw [Sort.partEqLoop_eq] at h5
  have hup := Sort.scanUp_ge (fun x => !lt1 f[a]! x) f j2 i2
  simp only [go_sem]
  refine loop_post (ι := Nat) (S := fun x => ⟨[(0, .ms 0 1 0 d.size c), (1, .int .i64 a), (9, .int .i64 x), (10, .int .i64 j2)], [some (.buf 1 (rw1 f) false true)]⟩) (m := fun x => j2 + 1 - x)
    (I := fun x => a < x ∧ x ≤ j2 + 2 ∧ Sort.scanUp (fun x => !lt1 f[a]! x) f j2 x = Sort.scanUp (fun x => !lt1 f[a]! x) f j2 i2) 2
    (fun s => ∃ E H, s = ⟨E, some (.buf 1 (rw1 f) false true) :: H⟩ ∧ lk E 0 = .ms 0 1 0 d.size c ∧ lk E 1 = .int .i64 a ∧ lk E 9 = .int .i64 (Sort.scanUp (fun x => !lt1 f[a]! x) f j2 i2 : Nat) ∧ lk E 10 = .int .i64 j2 ∧ a < Sort.scanUp (fun x => !lt1 f[a]! x) f j2 i2 ∧ Sort.scanUp (fun x => !lt1 f[a]! x) f j2 i2 ≤ j2 + 2) ?_ ?_ i2 _ ⟨by omega, by omega, rfl⟩ (by kernel_rfl)
  · rintro x ⟨u1, u2, u3⟩
    rw [Sort.scanUp] at u3
    by_cases hij : x ≤ j2
    · have hiji : (x : Int) ≤ (j2 : Int) := by omega
      have k1 : x < f.size := by omega
      have k2 : a < f.size := by omega
      have k1d : x < d.size := by omega
      have k2d : a < d.size := by omega
      have y1 := rw1_get k1
      have y2 := rw1_get k2
      have w1 := wrap_i64s (n := x) (by omega)
      cases hl : lt1 f[a]! f[x]! with
      | false =>
        rw [if_pos (by simp [hl, hij])] at u3
        simp only [go_sem, T_3, T_4, T_42, T_76, hiji, k1d, k2d, y1, y2, w1, call175, lt1_eq, hl]
        exact ⟨x + 1, ⟨by omega, by omega, u3⟩, by simp only; omega, by kernel_rfl⟩
      | true =>
        rw [if_neg (by simp [hl])] at u3
        simp only [go_sem, T_3, T_4, T_42, T_76, hiji, k1d, k2d, y1, y2, w1, call175, lt1_eq, hl]
        refine ⟨_, _, rfl, ?_⟩
        refine ⟨rfl, rfl, ?_, rfl, ?_, ?_⟩ <;> rw [← u3] <;> first | exact u1 | exact u2 | rfl
    · have hiji : ¬ (x : Int) ≤ (j2 : Int) := by omega
      rw [if_neg (by simp [hij])] at u3
      simp only [go_sem, T_3, T_4, T_42, T_76, hiji]
      refine ⟨_, _, rfl, ?_⟩
      refine ⟨rfl, rfl, ?_, rfl, ?_, ?_⟩ <;> rw [← u3] <;> first | exact u1 | exact u2 | rfl
  · rintro s ⟨E, H, rfl, l0, l1, l2, l3, l4, l5⟩
    simp only [go_sem]
    generalize Sort.scanUp (fun x => !lt1 f[a]! x) f j2 i2 = i3 at *
    refine loop_post (ι := Nat) (S := fun x => ⟨[(0, .ms 0 1 0 d.size c), (1, .int .i64 a), (9, .int .i64 i3), (10, .int .i64 x)], [some (.buf 1 (rw1 f) false true)]⟩) (m := fun x => x)
      (I := fun x => x ≤ j2 ∧ i3 ≤ x + 2 ∧ Sort.scanDown (fun x => lt1 f[a]! x) f i3 x = Sort.scanDown (fun x => lt1 f[a]! x) f i3 j2) 4
      (fun s => ∃ E H, s = ⟨E, some (.buf 1 (rw1 f) false true) :: H⟩ ∧ lk E 0 = .ms 0 1 0 d.size c ∧ lk E 1 = .int .i64 a ∧ lk E 9 = .int .i64 i3 ∧ lk E 10 = .int .i64 (Sort.scanDown (fun x => lt1 f[a]! x) f i3 j2 : Nat) ∧ i3 ≤ Sort.scanDown (fun x => lt1 f[a]! x) f i3 j2 + 2 ∧ Sort.scanDown (fun x => lt1 f[a]! x) f i3 j2 ≤ j2) ?_ ?_ j2 _ ⟨Nat.le_refl _, by omega, rfl⟩ (by simp only [head, gcOf, Nat.beq, cond_true, cond_false, gc, thaw, live, l0, l1, l2, l3]; kernel_rfl)
    · rintro x ⟨u1, u2, u3⟩
      by_cases hij : i3 ≤ x
      · obtain ⟨k, rfl⟩ : ∃ k, x = k + 1 := ⟨x - 1, by omega⟩
        rw [Sort.scanDown] at u3
        have hiji : ((i3 : Nat) : Int) ≤ ((k + 1 : Nat) : Int) := by omega
        have k1 : k + 1 < f.size := by omega
        have k2 : a < f.size := by omega
        have k1d : k + 1 < d.size := by omega
        have k2d : a < d.size := by omega
        have y1 := rw1_get k1
        have y2 := rw1_get k2
        have w1 := wrap_pred1 (j := k) (by omega)
        cases hl : lt1 f[a]! f[(k + 1)]! with
        | true =>
          rw [if_pos (by simp [hl]; omega)] at u3
          simp only [go_sem, T_3, T_4, T_42, T_76, hiji, k1d, k2d, y1, y2, w1, call175, lt1_eq, hl]
          exact ⟨k, ⟨by omega, by omega, u3⟩, by simp only; omega, by kernel_rfl⟩
        | false =>
          rw [if_neg (by simp [hl])] at u3
          simp only [go_sem, T_3, T_4, T_42, T_76, hiji, k1d, k2d, y1, y2, w1, call175, lt1_eq, hl]
          refine ⟨_, _, rfl, ?_⟩
          refine ⟨rfl, rfl, rfl, ?_, ?_, ?_⟩ <;> rw [← u3] <;> first | exact u1 | exact u2 | rfl
      · have hiji : ¬ ((i3 : Nat) : Int) ≤ (x : Int) := by omega
        have u3 : x = Sort.scanDown (fun x => lt1 f[a]! x) f i3 j2 := by
          rw [← u3]
          cases x with
          | zero => rfl
          | succ k => rw [Sort.scanDown, if_neg (by simp; omega)]
        simp only [go_sem, T_3, T_4, T_42, T_76, hiji]
        refine ⟨_, _, rfl, ?_⟩
        refine ⟨rfl, rfl, rfl, ?_, ?_, ?_⟩ <;> rw [← u3] <;> first | exact u1 | exact u2 | rfl
    · rintro s ⟨E, H, rfl, l0, l1, l2, l3, l4, l5⟩
      generalize Sort.scanDown (fun x => lt1 f[a]! x) f i3 j2 = j3 at *
      by_cases hgt3 : i3 > j3
      · have hgti3 : (i3 : Int) > (j3 : Int) := by omega
        rw [if_pos hgt3] at h5
        rw [← h5]
        simp only [go_sem, T_3, T_4, T_42, T_76, l0, l1, l2, l3, hgti3]
        show _ = _
        kernel_rfl
      · have hgti3 : ¬ (i3 : Int) > (j3 : Int) := by omega
        rw [if_neg hgt3] at h5
        obtain ⟨j3, rfl⟩ : ∃ t, j3 = t + 1 := ⟨j3 - 1, by omega⟩
        rw [Nat.add_sub_cancel] at h5
        have w5 := wrap_i64s (n := i3) (by omega)
        have w6 := wrap_pred1 (j := j3) (by omega)
        have sk1 : i3 < f.size := by omega
        have sk2 : (j3 + 1) < f.size := by omega
        have sd1 : i3 < d.size := by omega
        have sd2 : (j3 + 1) < d.size := by omega
        have sy1 := rw1_get sk1
        have sy2 := rw1_get sk2
        obtain ⟨sr, sy3⟩ := rw1_set (d := f) (i := i3) (j := (j3 + 1)) (x := .int .u32 f[(j3 + 1)]!) sk2
        have sy4 := rw1_swp sk1 sk2
        simp only [go_sem, T_3, T_4, T_42, T_76, l0, l1, l2, l3, hgti3, w5, w6, sd1, sd2, sy1, sy2, sy3, sy4]
        repeat (refine ⟨by kernel_rfl, ?_⟩)
        exact ⟨(i3 + 1, j3, Sort.swp f i3 (j3 + 1)), ⟨by simp only; omega, by simp only; omega, by simp only; omega, by simp only; rw [swp_size]; exact h4, h5⟩, by simp only; omega, (by simp only [head, gcOf, Nat.beq, cond_true, cond_false, gc, thaw, live, lk, l0, l1, l2, l3]; kernel_rfl)⟩
theorem call211 (d : Array Int) (a b pv k : Nat) (c : Option Nat) (hk : k = d.size) (hs : d.size < 1000000000) (hap : a ≤ pv) (hpb : pv < b) (hab : a + 1 < b) (hb : b ≤ d.size) (n : Nat) (hm : 1 ≤ n) (rest : Heap) : (callV (LX T fns) n (.clo 211 []) [.ms 0 1 0 k c, .int .i64 a, .int .i64 b, .int .i64 pv]).run (some (.buf 1 (rw1 d) false true) :: rest) [] =
    some ((.tup [.int .i64 (Sort.partition lt1 d a b pv).1, .bool (Sort.partition lt1 d a b pv).2.1], [(0, some (.buf 1 (rw1 (Sort.partition lt1 d a b pv).2.2) false true))]), [0]) := by
  have h := lim211 d a b pv k c hk hs hap hpb hab hb
  simp only [ob1] at h
  have hf : fns 211 = some fn211 := rfl
  unfold callV
  simp only [hf]
  unfold callR
  simp only [fn211, List.cons_append, List.nil_append, List.append_nil, frzArgs, frz, frzAll, frzG, frzGAll, ms2, msUp, List.tail]
  simp only [V.allIds, V.ids, List.append_nil, List.nil_append, collect, List.map_nil, List.contains_nil, Bool.false_eq_true, if_false, Rd.run, Heap.at?, Ob.ids, rowsIds, List.map_cons, List.cons_append, List.contains_cons, Nat.reduceBEq, Bool.or_self, Bool.or_false, Bool.false_or, Bool.or_true, Bool.true_or, if_true]
  unfold withR
  simp only [List.map_cons, List.map_nil, upd1, List.all_nil, List.all_cons, show 0 < n by omega, decide_true, Bool.and_self, if_true, V.reAll, V.re, idx, Nat.beq, cond_true, cond_false, Option.bind_some, Option.map_some, pullObs, Ob.re, reRows, Nat.reduceAdd, h, List.length_cons, List.length_nil, Nat.le_refl]
  unfold afterR
  simp only [V.re, V.reAll, pushObs, back, nth, Ob.re, reRows, Option.bind_some, Option.map_some, List.isEmpty_cons, Bool.false_and, Bool.false_eq_true, if_false, Rd.run, List.append_nil, Nat.reduceAdd]
theorem call210 (d : Array Int) (a b pv k : Nat) (c : Option Nat) (hk : k = d.size) (hs : d.size < 1000000000) (hap : a ≤ pv) (hpb : pv < b) (hab : a + 1 < b) (hb : b ≤ d.size) (n : Nat) (hm : 1 ≤ n) (rest : Heap) : (callV (LX T fns) n (.clo 210 []) [.ms 0 1 0 k c, .int .i64 a, .int .i64 b, .int .i64 pv]).run (some (.buf 1 (rw1 d) false true) :: rest) [] =
    some ((.int .i64 (Sort.partitionEqual lt1 d a b pv).1, [(0, some (.buf 1 (rw1 (Sort.partitionEqual lt1 d a b pv).2) false true))]), [0]) := by
  have h := lim210 d a b pv k c hk hs hap hpb hab hb
  simp only [ob1] at h
  have hf : fns 210 = some fn210 := rfl
  unfold callV
  simp only [hf]
  unfold callR
  simp only [fn210, List.cons_append, List.nil_append, List.append_nil, frzArgs, frz, frzAll, frzG, frzGAll, ms2, msUp, List.tail]
  simp only [V.allIds, V.ids, List.append_nil, List.nil_append, collect, List.map_nil, List.contains_nil, Bool.false_eq_true, if_false, Rd.run, Heap.at?, Ob.ids, rowsIds, List.map_cons, List.cons_append, List.contains_cons, Nat.reduceBEq, Bool.or_self, Bool.or_false, Bool.false_or, Bool.or_true, Bool.true_or, if_true]
  unfold withR
  simp only [List.map_cons, List.map_nil, upd1, List.all_nil, List.all_cons, show 0 < n by omega, decide_true, Bool.and_self, if_true, V.reAll, V.re, idx, Nat.beq, cond_true, cond_false, Option.bind_some, Option.map_some, pullObs, Ob.re, reRows, Nat.reduceAdd, h, List.length_cons, List.length_nil, Nat.le_refl]
  unfold afterR
  simp only [V.re, V.reAll, pushObs, back, nth, Ob.re, reRows, Option.bind_some, Option.map_some, List.isEmpty_cons, Bool.false_and, Bool.false_eq_true, if_false, Rd.run, List.append_nil, Nat.reduceAdd]
end Go.Proofs.Ytfdemnefkfkghaa.R
/- partialInsertionSort (printed by mksf.py). -/
namespace Go.Proofs.Ytfdemnefkfkghaa.R
open Go Go.Proofs
set_option linter.unusedSimpArgs false
set_option linter.unusedVariables false
set_option maxRecDepth 10000
set_option maxHeartbeats 4000000
theorem shiftDown_size : ∀ (j : Nat) (d : Array Int), (Sort.shiftDown lt1 j d).size = d.size
  | 0, d => rfl
  | j + 1, d => by
    simp only [Sort.shiftDown]
    split
    · rfl
    · rw [shiftDown_size j, swp_size]
theorem shiftUp_size {b : Nat} : ∀ (k j : Nat) (d : Array Int), b - j ≤ k → (Sort.shiftUp lt1 b j d).size = d.size
  | k, j, d, h => by
    rw [Sort.shiftUp]
    split
    · split
      · rfl
      · obtain ⟨k, rfl⟩ : ∃ t, k = t + 1 := ⟨k - 1, by omega⟩
        rw [shiftUp_size k _ _ (by omega), swp_size]
    · rfl
  termination_by k => k
theorem lim209 (d : Array Int) (a b n : Nat) (c : Option Nat) (hn : n = d.size) (hs : d.size < 1000000000) (hab : a + 1 < b) (hb : b ≤ d.size) : lim T fns 209 [.ms 0 1 0 n c, .int .i64 a, .int .i64 b] [ob1 d] =
    some (.bool (Sort.partialInsertionSort lt1 d a b).2, [some (ob1 (Sort.partialInsertionSort lt1 d a b).1)]) := by
  subst hn
  refine fn_rule (fn := fn209) rfl rfl (by simp [fn209]) ?_
  unfold fn209
  simp only [Try.f209, Option.getD_some, argEnv, List.map_nil, List.length_nil]
  unfold Sort.partialInsertionSort
  have w1 := wrap_i64s (n := a) (by omega)
  simp only [ob1]
  simp only [go_sem, T_3, T_4, T_42, T_76, w1]
  refine loop_rule (ι := Nat × Nat × Array Int) (S := fun p => ⟨[(0, .ms 0 1 0 d.size c), (1, .int .i64 a), (2, .int .i64 b), (7, .int .i64 p.2.1), (8, .int .i64 p.1)], [some (.buf 1 (rw1 p.2.2) false true)]⟩) (m := fun p => 6 - p.1)
    (I := fun p => p.1 ≤ 5 ∧ a < p.2.1 ∧ p.2.1 ≤ b ∧ p.2.2.size = d.size ∧ Sort.partialIns lt1 a b (5 - p.1) p.2.1 p.2.2 = Sort.partialIns lt1 a b 5 (a + 1) d) ?_ (0, a + 1, d) _ ⟨by simp only; omega, by simp only; omega, by simp only; omega, rfl, rfl⟩ (by kernel_rfl)
  rintro ⟨q, i0, e⟩ ⟨h1, h2, h3, h4, h5⟩
  simp only at h1 h2 h3 h4 h5
  by_cases hq : q < 5
  · have hqi : (q : Int) < 5 := by omega
    have wq := wrap_i64s (n := q) (by omega)
    rw [show 5 - q = (4 - q) + 1 by omega, Sort.partialIns] at h5
    dsimp only at h5
    simp only [go_sem, T_3, T_4, T_42, T_76, hqi]
    refine loop_post (ι := Nat) (S := fun x => ⟨[(0, .ms 0 1 0 d.size c), (1, .int .i64 a), (2, .int .i64 b), (7, .int .i64 x), (8, .int .i64 q)], [some (.buf 1 (rw1 e) false true)]⟩) (m := fun x => b + 1 - x)
      (I := fun x => a < x ∧ x ≤ b ∧ Sort.scanSorted lt1 e b x = Sort.scanSorted lt1 e b i0) 2
      (fun s => ∃ E H, s = ⟨E, some (.buf 1 (rw1 e) false true) :: H⟩ ∧ lk E 0 = .ms 0 1 0 d.size c ∧ lk E 1 = .int .i64 a ∧ lk E 2 = .int .i64 b ∧ lk E 7 = .int .i64 (Sort.scanSorted lt1 e b i0 : Nat) ∧ lk E 8 = .int .i64 q ∧ a < Sort.scanSorted lt1 e b i0 ∧ Sort.scanSorted lt1 e b i0 ≤ b) ?_ ?_ i0 _ ⟨by omega, by omega, rfl⟩ (by kernel_rfl)
    · rintro x ⟨u1, u2, u3⟩
      rw [Sort.scanSorted] at u3
      obtain ⟨k, rfl⟩ : ∃ t, x = t + 1 := ⟨x - 1, by omega⟩
      rw [Nat.add_sub_cancel] at u3
      by_cases hx : k + 1 < b
      · have k1 : k + 1 < e.size := by omega
        have k2 : k < e.size := by omega
        have k1d : k + 1 < d.size := by omega
        have k2d : k < d.size := by omega
        have y1 := rw1_get k1
        have y2 := rw1_get k2
        have v1 := wrap_pred1 (j := k) (by omega)
        have v2 := wrap_i64s (n := k + 1) (by omega)
        cases hl : lt1 e[k + 1]! e[k]! with
        | false =>
          rw [if_pos (by simp [hl, hx])] at u3
          simp only [go_sem, T_3, T_4, T_42, T_76, hx, k1d, k2d, y1, y2, v1, v2, call175, lt1_eq, hl]
          exact ⟨k + 1 + 1, ⟨by omega, by omega, u3⟩, by simp only; omega, by kernel_rfl⟩
        | true =>
          rw [if_neg (by simp [hl])] at u3
          simp only [go_sem, T_3, T_4, T_42, T_76, hx, k1d, k2d, y1, y2, v1, v2, call175, lt1_eq, hl]
          refine ⟨_, _, rfl, ?_⟩
          refine ⟨rfl, rfl, rfl, ?_, rfl, ?_, ?_⟩ <;> rw [← u3] <;> first | exact u1 | exact u2 | rfl
      · rw [if_neg (by simp [hx])] at u3
        simp only [go_sem, T_3, T_4, T_42, T_76, hx]
        refine ⟨_, _, rfl, ?_⟩
        refine ⟨rfl, rfl, rfl, ?_, rfl, ?_, ?_⟩ <;> rw [← u3] <;> first | exact u1 | exact u2 | rfl
    · rintro s ⟨E, H, rfl, l0, l1, l2, l3, l4, l5, l6⟩
      generalize Sort.scanSorted lt1 e b i0 = i at *
      by_cases hib : i = b
      · have hibi : (i : Int) = (b : Int) := by omega
        rw [if_pos hib] at h5
        rw [← h5]
        simp only [go_sem, T_3, T_4, T_42, T_76, l0, l1, l2, l3, l4, hibi]
        show _ = _
        kernel_rfl
      · have hibi : ¬ (i : Int) = (b : Int) := by omega
        rw [if_neg hib] at h5
        have w2 := wrap_sub (a := b) (b := a) (by omega) (by omega)
        by_cases h50 : b - a < 50
        · have h50i : ((b - a : Nat) : Int) < 50 := by omega
          rw [if_pos h50] at h5
          rw [← h5]
          simp only [go_sem, T_3, T_4, T_42, T_76, l0, l1, l2, l3, l4, hibi, w2, h50i]
          show _ = _
          kernel_rfl
        · have h50i : ¬ ((b - a : Nat) : Int) < 50 := by omega
          rw [if_neg h50] at h5
          obtain ⟨k, rfl⟩ : ∃ t, i = t + 1 := ⟨i - 1, by omega⟩
          rw [Nat.add_sub_cancel] at h5
          have w3 := wrap_pred1 (j := k) (by omega)
          have w4 := wrap_sub (a := k + 1) (b := a) (by omega) (by omega)
          have w5 := wrap_sub (a := b) (b := k + 1) (by omega) (by omega)
          have w6 := wrap_i64s (n := k + 1) (by omega)
          have sk1 : (k + 1) < e.size := by omega
          have sk2 : k < e.size := by omega
          have sd1 : (k + 1) < d.size := by omega
          have sd2 : k < d.size := by omega
          have sy1 := rw1_get sk1
          have sy2 := rw1_get sk2
          obtain ⟨sr, sy3⟩ := rw1_set (d := e) (i := (k + 1)) (j := k) (x := .int .u32 e[k]!) sk2
          have sy4 := rw1_swp sk1 sk2
          have hz1 : (Sort.swp e (k + 1) k).size = d.size := by rw [swp_size]; exact h4

          by_cases hA2 : k + 1 - a ≥ 2
          · have hA : ((k + 1 - a : Nat) : Int) ≥ 2 := by omega
            rw [if_pos hA2] at h5
            simp only [go_sem, T_3, T_4, T_42, T_76, l0, l1, l2, l3, l4, hibi, w2, h50i, w3, w4, sd1, sd2, sy1, sy2, sy3, sy4, hA]
            repeat (refine ⟨by kernel_rfl, ?_⟩)
            generalize Sort.swp e (k + 1) k = e1 at *
            refine loop_post (ι := Nat × Array Int) (S := fun p => ⟨[(0, .ms 0 1 0 d.size c), (1, .int .i64 a), (2, .int .i64 b), (7, .int .i64 ((k + 1 : Nat) : Int)), (8, .int .i64 q), (9, .int .i64 p.1)], [some (.buf 1 (rw1 p.2) false true)]⟩) (m := fun p => p.1)
              (I := fun p => p.1 ≤ k ∧ p.2.size = d.size ∧ Sort.shiftDown lt1 p.1 p.2 = Sort.shiftDown lt1 k e1) 4
              (fun s => ∃ E H, s = ⟨E, some (.buf 1 (rw1 (Sort.shiftDown lt1 k e1)) false true) :: H⟩ ∧ lk E 0 = .ms 0 1 0 d.size c ∧ lk E 1 = .int .i64 a ∧ lk E 2 = .int .i64 b ∧ lk E 7 = .int .i64 ((k + 1 : Nat) : Int) ∧ lk E 8 = .int .i64 q) ?_ ?_ (k, e1) _ ⟨Nat.le_refl _, hz1, rfl⟩ (by simp only [head, gcOf, Nat.beq, cond_true, cond_false, gc, thaw, live, lk, l0, l1, l2, l3, l4]; kernel_rfl)
            · rintro ⟨x, f⟩ ⟨u1, u2, u3⟩
              simp only at u1 u2 u3
              cases x with
              | zero =>
                have hx : ¬ ((0 : Nat) : Int) ≥ 1 := by decide
                have u3 : f = Sort.shiftDown lt1 k e1 := u3
                simp only [go_sem, T_3, T_4, T_42, T_76, hx]
                rw [← u3]
                exact ⟨_, _, rfl, rfl, rfl, rfl, rfl, rfl⟩
              | succ x =>
                simp only [Sort.shiftDown] at u3
                have hx : ((x + 1 : Nat) : Int) ≥ 1 := by omega
                have v1 := wrap_pred1 (j := x) (by omega)
                have fk1 : (x + 1) < f.size := by omega
                have fk2 : x < f.size := by omega
                have fd1 : (x + 1) < d.size := by omega
                have fd2 : x < d.size := by omega
                have fy1 := rw1_get fk1
                have fy2 := rw1_get fk2
                obtain ⟨fr, fy3⟩ := rw1_set (d := f) (i := (x + 1)) (j := x) (x := .int .u32 f[x]!) fk2
                have fy4 := rw1_swp fk1 fk2
                cases hl : lt1 f[x + 1]! f[x]! with
                | false =>
                  rw [if_pos (by simp [hl])] at u3
                  simp only [go_sem, T_3, T_4, T_42, T_76, hx, fd1, fd2, fy1, fy2, fy3, fy4, v1, call175, lt1_eq, hl]
                  rw [← u3]
                  exact ⟨_, _, rfl, rfl, rfl, rfl, rfl, rfl⟩
                | true =>
                  rw [if_neg (by simp [hl])] at u3
                  simp only [go_sem, T_3, T_4, T_42, T_76, hx, fd1, fd2, fy1, fy2, fy3, fy4, v1, call175, lt1_eq, hl]
                  repeat (refine ⟨by kernel_rfl, ?_⟩)
                  exact ⟨(x, Sort.swp f (x + 1) x), ⟨by simp only; omega, by simp only; rw [swp_size]; exact u2, u3⟩, by simp only; omega, by kernel_rfl⟩
            · rintro s ⟨E, H, rfl, l0, l1, l2, l3, l4⟩
              have hz2 : (Sort.shiftDown lt1 k e1).size = d.size := by rw [shiftDown_size]; exact hz1
              generalize Sort.shiftDown lt1 k e1 = e2 at *
              by_cases hB : b - (k + 1) ≥ 2
              · have hBi : ((b - (k + 1) : Nat) : Int) ≥ 2 := by omega
                rw [if_pos hB] at h5
                simp only [go_sem, T_3, T_4, T_42, T_76, l0, l1, l2, l3, l4, w5, w6, hBi]
                rw [← show Sort.partialIns lt1 a b (5 - (q + 1)) (k + 1) (Sort.shiftUp lt1 b (k + 1 + 1) e2) = Sort.partialIns lt1 a b 5 (a + 1) d by rw [show 5 - (q + 1) = 4 - q by omega]; exact h5] 
                refine loop_post (ι := Nat × Array Int) (S := fun p => ⟨[(0, .ms 0 1 0 d.size c), (1, .int .i64 a), (2, .int .i64 b), (7, .int .i64 ((k + 1 : Nat) : Int)), (8, .int .i64 q), (10, .int .i64 p.1)], [some (.buf 1 (rw1 p.2) false true)]⟩) (m := fun p => b + 1 - p.1)
                  (I := fun p => 1 ≤ p.1 ∧ p.1 ≤ b ∧ p.2.size = d.size ∧ Sort.shiftUp lt1 b p.1 p.2 = Sort.shiftUp lt1 b (k + 1 + 1) e2) 6
                  (fun s => ∃ E H, s = ⟨E, some (.buf 1 (rw1 (Sort.shiftUp lt1 b (k + 1 + 1) e2)) false true) :: H⟩ ∧ lk E 0 = .ms 0 1 0 d.size c ∧ lk E 1 = .int .i64 a ∧ lk E 2 = .int .i64 b ∧ lk E 7 = .int .i64 ((k + 1 : Nat) : Int) ∧ lk E 8 = .int .i64 q) ?_ ?_ (k + 1 + 1, e2) _ ⟨by simp only; omega, by simp only; omega, hz2, rfl⟩ (by simp only [head, gcOf, Nat.beq, cond_true, cond_false, gc, thaw, live, lk, l0, l1, l2, l3, l4]; kernel_rfl)
                · rintro ⟨x, f⟩ ⟨u1, u2, u3, u4⟩
                  simp only at u1 u2 u3 u4
                  rw [Sort.shiftUp] at u4
                  obtain ⟨x, rfl⟩ : ∃ t, x = t + 1 := ⟨x - 1, by omega⟩
                  rw [Nat.add_sub_cancel] at u4
                  by_cases hx : x + 1 < b
                  · rw [if_pos hx] at u4
                    have v1 := wrap_pred1 (j := x) (by omega)
                    have v2 := wrap_i64s (n := x + 1) (by omega)
                    have fk1 : (x + 1) < f.size := by omega
                    have fk2 : x < f.size := by omega
                    have fd1 : (x + 1) < d.size := by omega
                    have fd2 : x < d.size := by omega
                    have fy1 := rw1_get fk1
                    have fy2 := rw1_get fk2
                    obtain ⟨fr, fy3⟩ := rw1_set (d := f) (i := (x + 1)) (j := x) (x := .int .u32 f[x]!) fk2
                    have fy4 := rw1_swp fk1 fk2
                    cases hl : lt1 f[x + 1]! f[x]! with
                    | false =>
                      rw [if_pos (by simp [hl])] at u4
                      simp only [go_sem, T_3, T_4, T_42, T_76, hx, fd1, fd2, fy1, fy2, fy3, fy4, v1, v2, call175, lt1_eq, hl]
                      rw [← u4]
                      exact ⟨_, _, rfl, rfl, rfl, rfl, rfl, rfl⟩
                    | true =>
                      rw [if_neg (by simp [hl])] at u4
                      simp only [go_sem, T_3, T_4, T_42, T_76, hx, fd1, fd2, fy1, fy2, fy3, fy4, v1, v2, call175, lt1_eq, hl]
                      repeat (refine ⟨by kernel_rfl, ?_⟩)
                      exact ⟨(x + 1 + 1, Sort.swp f (x + 1) x), ⟨by simp only; omega, by simp only; omega, by simp only; rw [swp_size]; exact u3, u4⟩, by simp only; omega, by kernel_rfl⟩
                  · rw [if_neg hx] at u4
                    simp only [go_sem, T_3, T_4, T_42, T_76, hx]
                    rw [← u4]
                    exact ⟨_, _, rfl, rfl, rfl, rfl, rfl, rfl⟩
                · rintro s ⟨E, H, rfl, l0, l1, l2, l3, l4⟩
                  simp only [go_sem, T_3, T_4, T_42, T_76, l0, l1, l2, l3, l4, wq]
                  exact ⟨(q + 1, k + 1, Sort.shiftUp lt1 b (k + 1 + 1) e2), ⟨by simp only; omega, by simp only; omega, by simp only; omega, by simp only; rw [shiftUp_size _ _ _ (Nat.le_refl _)]; exact hz2, rfl⟩, by simp only; omega, (by simp only [head, gcOf, Nat.beq, cond_true, cond_false, gc, thaw, live, lk, l0, l1, l2, l3, l4]; kernel_rfl)⟩
              · have hBi : ¬ ((b - (k + 1) : Nat) : Int) ≥ 2 := by omega
                rw [if_neg hB] at h5
                simp only [go_sem, T_3, T_4, T_42, T_76, l0, l1, l2, l3, l4, w5, w6, hBi, wq]
                exact ⟨(q + 1, k + 1, e2), ⟨by simp only; omega, by simp only; omega, by simp only; omega, hz2, by simp only; rw [show 5 - (q + 1) = 4 - q by omega]; exact h5⟩, by simp only; omega, (by simp only [head, gcOf, Nat.beq, cond_true, cond_false, gc, thaw, live, lk, l0, l1, l2, l3, l4]; kernel_rfl)⟩
          · have hA : ¬ ((k + 1 - a : Nat) : Int) ≥ 2 := by omega
            rw [if_neg hA2] at h5
            have hz2 := hz1
            generalize Sort.swp e (k + 1) k = e2 at *
            by_cases hB : b - (k + 1) ≥ 2
            · have hBi : ((b - (k + 1) : Nat) : Int) ≥ 2 := by omega
              rw [if_pos hB] at h5
              simp only [go_sem, T_3, T_4, T_42, T_76, l0, l1, l2, l3, l4, hibi, w2, h50i, w3, w4, w5, w6, sd1, sd2, sy1, sy2, sy3, sy4, hA, hBi]
              repeat (refine ⟨by kernel_rfl, ?_⟩)
              rw [← show Sort.partialIns lt1 a b (5 - (q + 1)) (k + 1) (Sort.shiftUp lt1 b (k + 1 + 1) e2) = Sort.partialIns lt1 a b 5 (a + 1) d by rw [show 5 - (q + 1) = 4 - q by omega]; exact h5] 
              refine loop_post (ι := Nat × Array Int) (S := fun p => ⟨[(0, .ms 0 1 0 d.size c), (1, .int .i64 a), (2, .int .i64 b), (7, .int .i64 ((k + 1 : Nat) : Int)), (8, .int .i64 q), (10, .int .i64 p.1)], [some (.buf 1 (rw1 p.2) false true)]⟩) (m := fun p => b + 1 - p.1)
                (I := fun p => 1 ≤ p.1 ∧ p.1 ≤ b ∧ p.2.size = d.size ∧ Sort.shiftUp lt1 b p.1 p.2 = Sort.shiftUp lt1 b (k + 1 + 1) e2) 6
                (fun s => ∃ E H, s = ⟨E, some (.buf 1 (rw1 (Sort.shiftUp lt1 b (k + 1 + 1) e2)) false true) :: H⟩ ∧ lk E 0 = .ms 0 1 0 d.size c ∧ lk E 1 = .int .i64 a ∧ lk E 2 = .int .i64 b ∧ lk E 7 = .int .i64 ((k + 1 : Nat) : Int) ∧ lk E 8 = .int .i64 q) ?_ ?_ (k + 1 + 1, e2) _ ⟨by simp only; omega, by simp only; omega, hz2, rfl⟩ (by simp only [head, gcOf, Nat.beq, cond_true, cond_false, gc, thaw, live, lk, l0, l1, l2, l3, l4]; kernel_rfl)
              · rintro ⟨x, f⟩ ⟨u1, u2, u3, u4⟩
                simp only at u1 u2 u3 u4
                rw [Sort.shiftUp] at u4
                obtain ⟨x, rfl⟩ : ∃ t, x = t + 1 := ⟨x - 1, by omega⟩
                rw [Nat.add_sub_cancel] at u4
                by_cases hx : x + 1 < b
                · rw [if_pos hx] at u4
                  have v1 := wrap_pred1 (j := x) (by omega)
                  have v2 := wrap_i64s (n := x + 1) (by omega)
                  have fk1 : (x + 1) < f.size := by omega
                  have fk2 : x < f.size := by omega
                  have fd1 : (x + 1) < d.size := by omega
                  have fd2 : x < d.size := by omega
                  have fy1 := rw1_get fk1
                  have fy2 := rw1_get fk2
                  obtain ⟨fr, fy3⟩ := rw1_set (d := f) (i := (x + 1)) (j := x) (x := .int .u32 f[x]!) fk2
                  have fy4 := rw1_swp fk1 fk2
                  cases hl : lt1 f[x + 1]! f[x]! with
                  | false =>
                    rw [if_pos (by simp [hl])] at u4
                    simp only [go_sem, T_3, T_4, T_42, T_76, hx, fd1, fd2, fy1, fy2, fy3, fy4, v1, v2, call175, lt1_eq, hl]
                    rw [← u4]
                    exact ⟨_, _, rfl, rfl, rfl, rfl, rfl, rfl⟩
                  | true =>
                    rw [if_neg (by simp [hl])] at u4
                    simp only [go_sem, T_3, T_4, T_42, T_76, hx, fd1, fd2, fy1, fy2, fy3, fy4, v1, v2, call175, lt1_eq, hl]
                    repeat (refine ⟨by kernel_rfl, ?_⟩)
                    exact ⟨(x + 1 + 1, Sort.swp f (x + 1) x), ⟨by simp only; omega, by simp only; omega, by simp only; rw [swp_size]; exact u3, u4⟩, by simp only; omega, by kernel_rfl⟩
                · rw [if_neg hx] at u4
                  simp only [go_sem, T_3, T_4, T_42, T_76, hx]
                  rw [← u4]
                  exact ⟨_, _, rfl, rfl, rfl, rfl, rfl, rfl⟩
              · rintro s ⟨E, H, rfl, l0, l1, l2, l3, l4⟩
                simp only [go_sem, T_3, T_4, T_42, T_76, l0, l1, l2, l3, l4, wq]
                exact ⟨(q + 1, k + 1, Sort.shiftUp lt1 b (k + 1 + 1) e2), ⟨by simp only; omega, by simp only; omega, by simp only; omega, by simp only; rw [shiftUp_size _ _ _ (Nat.le_refl _)]; exact hz2, rfl⟩, by simp only; omega, (by simp only [head, gcOf, Nat.beq, cond_true, cond_false, gc, thaw, live, lk, l0, l1, l2, l3, l4]; kernel_rfl)⟩
            · have hBi : ¬ ((b - (k + 1) : Nat) : Int) ≥ 2 := by omega
              rw [if_neg hB] at h5
              simp only [go_sem, T_3, T_4, T_42, T_76, l0, l1, l2, l3, l4, hibi, w2, h50i, w3, w4, w5, w6, sd1, sd2, sy1, sy2, sy3, sy4, hA, hBi, wq]
              repeat (refine ⟨by kernel_rfl, ?_⟩)
              exact ⟨(q + 1, k + 1, e2), ⟨by simp only; omega, by simp only; omega, by simp only; omega, hz2, by simp only; rw [show 5 - (q + 1) = 4 - q by omega]; exact h5⟩, by simp only; omega, (by simp only [head, gcOf, Nat.beq, cond_true, cond_false, gc, thaw, live, lk, l0, l1, l2, l3, l4]; kernel_rfl)⟩
  · have hqi : ¬ (q : Int) < 5 := by omega
    rw [show 5 - q = 0 by omega] at h5
    rw [← h5]
    simp only [go_sem, T_3, T_4, T_42, T_76, hqi]
    show _ = _
    kernel_rfl
theorem call209 (d : Array Int) (a b k : Nat) (c : Option Nat) (hk : k = d.size) (hs : d.size < 1000000000) (hab : a + 1 < b) (hb : b ≤ d.size) (n : Nat) (hm : 1 ≤ n) (rest : Heap) : (callV (LX T fns) n (.clo 209 []) [.ms 0 1 0 k c, .int .i64 a, .int .i64 b]).run (some (.buf 1 (rw1 d) false true) :: rest) [] =
    some ((.bool (Sort.partialInsertionSort lt1 d a b).2, [(0, some (.buf 1 (rw1 (Sort.partialInsertionSort lt1 d a b).1) false true))]), [0]) := by
  have h := lim209 d a b k c hk hs hab hb
  simp only [ob1] at h
  have hf : fns 209 = some fn209 := rfl
  unfold callV
  simp only [hf]
  unfold callR
  simp only [fn209, List.cons_append, List.nil_append, List.append_nil, frzArgs, frz, frzAll, frzG, frzGAll, ms2, msUp, List.tail]
  simp only [V.allIds, V.ids, List.append_nil, List.nil_append, collect, List.map_nil, List.contains_nil, Bool.false_eq_true, if_false, Rd.run, Heap.at?, Ob.ids, rowsIds, List.map_cons, List.cons_append, List.contains_cons, Nat.reduceBEq, Bool.or_self, Bool.or_false, Bool.false_or, Bool.or_true, Bool.true_or, if_true]
  unfold withR
  simp only [List.map_cons, List.map_nil, upd1, List.all_nil, List.all_cons, show 0 < n by omega, decide_true, Bool.and_self, if_true, V.reAll, V.re, idx, Nat.beq, cond_true, cond_false, Option.bind_some, Option.map_some, pullObs, Ob.re, reRows, Nat.reduceAdd, h, List.length_cons, List.length_nil, Nat.le_refl]
  unfold afterR
  simp only [V.re, V.reAll, pushObs, back, nth, Ob.re, reRows, Option.bind_some, Option.map_some, List.isEmpty_cons, Bool.false_and, Bool.false_eq_true, if_false, Rd.run, List.append_nil, Nat.reduceAdd]
end Go.Proofs.Ytfdemnefkfkghaa.R
/- bits.Len, nextPowerOfTwo, xorshift. -/
namespace Go.Proofs.Ytfdemnefkfkghaa.R
open Go Go.Proofs
set_option linter.unusedSimpArgs false
set_option linter.unusedVariables false
set_option maxRecDepth 100000
set_option maxHeartbeats 4000000
/-- A table of the lengths of bytes. -/
def len8 (tb : ByteArray) : Bool := (List.range 256).all fun y => tb[y]? == some (UInt8.ofNat (Sort.bitsLen y))
theorem bitsLen_step {x k : Nat} (h : 2 ^ k ≤ x) : Sort.bitsLen x = k + Sort.bitsLen (x / 2 ^ k) := by
  have hk : 0 < 2 ^ k := Nat.two_pow_pos k
  have h0 : x ≠ 0 := by omega
  have h1 : x / 2 ^ k ≠ 0 := by
    have := Nat.div_pos h hk
    omega
  unfold Sort.bitsLen
  rw [if_neg h0, if_neg h1]
  have : Nat.log2 (x / 2 ^ k) + k = Nat.log2 x := by
    refine (Nat.log2_eq_iff h0).2 ⟨?_, ?_⟩ |>.symm
    · have a := (Nat.log2_eq_iff h1).1 rfl
      rw [Nat.pow_add]
      exact Nat.le_trans (Nat.mul_le_mul_right _ a.1) (Nat.div_mul_le_self _ _)
    · have a := (Nat.log2_eq_iff h1).1 rfl
      rw [show Nat.log2 (x / 2 ^ k) + k + 1 = (Nat.log2 (x / 2 ^ k) + 1) + k by omega, Nat.pow_add]
      exact (Nat.div_lt_iff_lt_mul hk).1 a.2
  omega
theorem len8_get {tb : ByteArray} (h : len8 tb = true) {y : Nat} (hy : y < 256) : tb[y]? = some (UInt8.ofNat (Sort.bitsLen y)) := by
  have := List.all_eq_true.1 h y (List.mem_range.2 hy)
  exact of_decide_eq_true (by simpa using this)
theorem bitsLen_small {y : Nat} (hy : y < 256) : Sort.bitsLen y ≤ 8 := (Sort.bitsLen_le_iff y 8).2 hy
theorem idx8 {tb : ByteArray} {y : Nat} (hy : y < 256) (h : len8 tb = true) : indexR T 9 (.str tb) (.int .u8 y) = .pure (.int .u8 (Sort.bitsLen y : Nat), []) := by
  have e := len8_get h hy
  have b := bitsLen_small hy
  have u : (UInt8.ofNat (Sort.bitsLen y)).toNat = Sort.bitsLen y := by
    rw [UInt8.toNat_ofNat']
    omega
  unfold indexR
  simp only [T_3, T_5, T_9, T_130, natOf_cast, e, u]
theorem wrap_u8 {y : Nat} (h : y < 256) : IntKind.u8.wrap (y : Int) = y := by
  simp [IntKind.wrap, IntKind.signed, IntKind.bits]
  omega
theorem fdiv_nat (x k : Nat) : Int.fdiv (x : Int) (k : Int) = ((x / k : Nat) : Int) := by
  rw [Int.fdiv_eq_ediv_of_nonneg _ (by omega)]
  rfl
theorem shr16 (x : Nat) : Int.fdiv (x : Int) (2 ^ min (Int.toNat 16) 64) = ((x / 65536 : Nat) : Int) := fdiv_nat x 65536
theorem shr8 (x : Nat) : Int.fdiv (x : Int) (2 ^ min (Int.toNat 8) 64) = ((x / 256 : Nat) : Int) := fdiv_nat x 256
theorem ge16 : (0 : Int) ≤ 16 := by decide
theorem ge8 : (0 : Int) ≤ 8 := by decide
theorem wrap_16 : IntKind.i64.wrap (0 + 16) = 16 := by decide
theorem wrap_8 : IntKind.i64.wrap (0 + 8) = 8 := by decide
theorem wrap_24 : IntKind.i64.wrap (16 + 8) = 24 := by decide
theorem wrap_ad8 {k : Nat} (hk : k < 100) : IntKind.i64.wrap ((8 : Int) + (k : Int)) = ((8 + k : Nat) : Int) := wrap_add2 (a := 8) (by omega)
theorem wrap_ad16 {k : Nat} (hk : k < 100) : IntKind.i64.wrap ((16 : Int) + (k : Int)) = ((16 + k : Nat) : Int) := wrap_add2 (a := 16) (by omega)
theorem wrap_ad24 {k : Nat} (hk : k < 100) : IntKind.i64.wrap ((24 : Int) + (k : Int)) = ((24 + k : Nat) : Int) := wrap_add2 (a := 24) (by omega)
theorem lim213 (x : Nat) (hx : x < 4294967296) : lim T fns 213 [.int .u64 x] [] = some (.int .i64 (Sort.bitsLen x : Nat), []) := by
  refine fn_rule (fn := fn213) rfl rfl (by simp [fn213]) ?_
  unfold fn213
  simp only [Try.f213, Option.getD_some, argEnv, List.map_nil, List.length_nil]
  have g32 : ¬ (x : Int) ≥ 4294967296 := by omega
  by_cases h16 : x ≥ 65536
  · have g16 : (x : Int) ≥ 65536 := by omega
    rw [bitsLen_step (x := x) (k := 16) h16]
    by_cases h8 : x / 65536 ≥ 256
    · have g8 : ((x / 65536 : Nat) : Int) ≥ 256 := by omega
      have hy : x / 65536 / 256 < 256 := by omega
      have hb := bitsLen_small hy
      have w := wrap_ad24 (k := Sort.bitsLen (x / 65536 / 256)) (by omega)
      have hn := wrap_nat (n := Sort.bitsLen (x / 65536 / 256)) (by omega)
      have r : 16 + (8 + Sort.bitsLen (x / 2 ^ 16 / 2 ^ 8)) = 24 + Sort.bitsLen (x / 65536 / 256) := by
        rw [show x / 2 ^ 16 / 2 ^ 8 = x / 65536 / 256 from rfl]
        omega
      rw [bitsLen_step (x := x / 2 ^ 16) (k := 8) h8, r]
      simp only [go_sem, T_3, T_5, T_9, T_130, g32, g16, shr16, ge16, g8, shr8, ge8, wrap_u8 hy, wrap_16, wrap_24]
      rw [idx8 hy (by kernel_rfl)]
      simp only [go_sem, T_3, T_5, T_9, T_130, hn, w]
    · have g8 : ¬ ((x / 65536 : Nat) : Int) ≥ 256 := by omega
      have hy : x / 65536 < 256 := by omega
      have hb := bitsLen_small hy
      have w := wrap_ad16 (k := Sort.bitsLen (x / 65536)) (by omega)
      have hn := wrap_nat (n := Sort.bitsLen (x / 65536)) (by omega)
      simp only [go_sem, T_3, T_5, T_9, T_130, g32, g16, shr16, ge16, g8, wrap_u8 hy, wrap_16]
      rw [idx8 hy (by kernel_rfl)]
      simp only [go_sem, T_3, T_5, T_9, T_130, hn, w]
  · have g16 : ¬ (x : Int) ≥ 65536 := by omega
    by_cases h8 : x ≥ 256
    · have g8 : (x : Int) ≥ 256 := by omega
      rw [bitsLen_step (x := x) (k := 8) h8]
      have hy : x / 256 < 256 := by omega
      have hb := bitsLen_small hy
      have w := wrap_ad8 (k := Sort.bitsLen (x / 256)) (by omega)
      have hn := wrap_nat (n := Sort.bitsLen (x / 256)) (by omega)
      simp only [go_sem, T_3, T_5, T_9, T_130, g32, g16, g8, shr8, ge8, wrap_u8 hy, wrap_8]
      rw [idx8 hy (by kernel_rfl)]
      simp only [go_sem, T_3, T_5, T_9, T_130, hn, w]
    · have g8 : ¬ (x : Int) ≥ 256 := by omega
      have hy : x < 256 := by omega
      have hb := bitsLen_small hy
      have hn := wrap_nat (n := Sort.bitsLen x) (by omega)
      simp only [go_sem, T_3, T_5, T_9, T_130, g32, g16, g8, wrap_u8 hy]
      rw [idx8 hy (by kernel_rfl)]
      simp only [go_sem, T_3, T_5, T_9, T_130, hn, Int.zero_add]
theorem call213 (x : Nat) (hx : x < 4294967296) (n : Nat) : callV (LX T fns) n (.clo 213 []) [.int .u64 x] = .pure (.int .i64 (Sort.bitsLen x : Nat), []) := callV_plain (fn := fn213) rfl rfl rfl (lim213 x hx) n
theorem lim178 (x : Nat) (hx : x < 4294967296) : lim T fns 178 [.int .u64 x] [] = some (.int .i64 (Sort.bitsLen x : Nat), []) := by
  refine fn_rule (fn := fn178) rfl rfl (by simp [fn178]) ?_
  unfold fn178
  simp only [Try.f178, Option.getD_some, argEnv, List.map_nil, List.length_nil]
  simp only [go_sem, T_42, T_130, T_234, call213 x hx]
theorem call178 (x : Nat) (hx : x < 4294967296) (n : Nat) : callV (LX T fns) n (.clo 178 []) [.int .u64 x] = .pure (.int .i64 (Sort.bitsLen x : Nat), []) := callV_plain (fn := fn178) rfl rfl rfl (lim178 x hx) n
theorem wrap_u64b {n : Nat} (h : n < 18446744073709551616) : IntKind.u64.wrap (n : Int) = n := by
  simp [IntKind.wrap, IntKind.signed, IntKind.bits]
  omega
theorem two_pow_wrap {k : Nat} (hk : k ≤ 62) : IntKind.u64.wrap ((1 : Int) * 2 ^ min k 64) = ((1 <<< k : Nat) : Int) := by
  have h : (2 : Nat) ^ k ≤ 2 ^ 62 := Nat.pow_le_pow_right (by decide) hk
  rw [show min k 64 = k by omega, Int.one_mul, Nat.one_shiftLeft, show ((2 : Int) ^ k) = ((2 ^ k : Nat) : Int) by push_cast; rfl]
  generalize (2 : Nat) ^ k = p at h
  exact wrap_u64b (by omega)
theorem lim229 (x : Nat) (hx : x < 4294967296) : lim T fns 229 [.int .i64 x] [] = some (.int .u64 (1 <<< Sort.bitsLen x : Nat), []) := by
  refine fn_rule (fn := fn229) rfl rfl (by simp [fn229]) ?_
  unfold fn229
  simp only [Try.f229, Option.getD_some, argEnv, List.map_nil, List.length_nil]
  have hb : Sort.bitsLen x ≤ 62 := (Sort.bitsLen_le_iff x 62).2 (by omega)
  simp only [go_sem, T_3, T_234, wrap_u64 (show x < 1000000000000000000 by omega), call178 x hx, two_pow_wrap hb, Int.natCast_nonneg, Int.toNat_natCast]
theorem call229 (x : Nat) (hx : x < 4294967296) (n : Nat) : callV (LX T fns) n (.clo 229 []) [.int .i64 x] = .pure (.int .u64 (1 <<< Sort.bitsLen x : Nat), []) := callV_plain (fn := fn229) rfl rfl rfl (lim229 x hx) n
theorem ofInt_nat {X : Nat} (h : X < 18446744073709551616) : (BitVec.ofInt 64 (X : Int)).toNat = X := by
  rw [BitVec.toNat_ofInt]
  omega
theorem xor_nat {X Y : Nat} (hx : X < 18446744073709551616) (hy : Y < 18446744073709551616) : IntKind.u64.wrap ((@BitVec.toNat 64 (@HXor.hXor (BitVec 64) (BitVec 64) (BitVec 64) (@instHXorOfXorOp (BitVec IntKind.u64.bits) (@BitVec.instXorOp IntKind.u64.bits)) (BitVec.ofInt 64 (X : Int)) (BitVec.ofInt 64 (Y : Int)))  : Nat) : Int) = ((X ^^^ Y : Nat) : Int) := by
  show IntKind.u64.wrap ((BitVec.ofInt 64 (X : Int) ^^^ BitVec.ofInt 64 (Y : Int)).toNat : Int) = _
  rw [BitVec.toNat_xor, ofInt_nat hx, ofInt_nat hy]
  exact wrap_u64b (Nat.xor_lt_two_pow (n := 64) (by omega) (by omega))
theorem and_nat {X Y : Nat} (hx : X < 18446744073709551616) (hy : Y < 18446744073709551616) : IntKind.u64.wrap ((@BitVec.toNat 64 (@HAnd.hAnd (BitVec 64) (BitVec 64) (BitVec 64) (@instHAndOfAndOp (BitVec IntKind.u64.bits) (@BitVec.instAndOp IntKind.u64.bits)) (BitVec.ofInt 64 (X : Int)) (BitVec.ofInt 64 (Y : Int)))  : Nat) : Int) = ((X &&& Y : Nat) : Int) := by
  show IntKind.u64.wrap ((BitVec.ofInt 64 (X : Int) &&& BitVec.ofInt 64 (Y : Int)).toNat : Int) = _
  rw [BitVec.toNat_and, ofInt_nat hx, ofInt_nat hy]
  exact wrap_u64b (Nat.lt_of_le_of_lt Nat.and_le_left hx)
theorem shl13 {X : Nat} : IntKind.u64.wrap ((X : Int) * 2 ^ min (Int.toNat 13) 64) = ((X * 8192 % 18446744073709551616 : Nat) : Int) := by
  rw [show (2 : Int) ^ min (Int.toNat 13) 64 = 8192 from rfl]
  simp [IntKind.wrap, IntKind.signed, IntKind.bits]
theorem shl17 {X : Nat} : IntKind.u64.wrap ((X : Int) * 2 ^ min (Int.toNat 17) 64) = ((X * 131072 % 18446744073709551616 : Nat) : Int) := by
  rw [show (2 : Int) ^ min (Int.toNat 17) 64 = 131072 from rfl]
  simp [IntKind.wrap, IntKind.signed, IntKind.bits]
theorem shr7 (x : Nat) : Int.fdiv (x : Int) (2 ^ min (Int.toNat 7) 64) = ((x / 128 : Nat) : Int) := fdiv_nat x 128
theorem ge13 : (0 : Int) ≤ 13 := by decide
theorem ge17 : (0 : Int) ≤ 17 := by decide
theorem ge7 : (0 : Int) ≤ 7 := by decide
def bx6 (X : Nat) : Ob := .buf 1 [[.int .u64 X]] false true
theorem lim230 (X : Nat) (hX : X < 18446744073709551616) : lim T fns 230 [.ptr 0 0 0] [bx6 X] = some (.int .u64 (Sort.xorNextN X : Nat), [some (bx6 (Sort.xorNextN X))]) := by
  refine fn_rule (fn := fn230) rfl rfl (by simp [fn230]) ?_
  unfold fn230
  simp only [Try.f230, Option.getD_some, argEnv, List.map_nil, List.length_nil]
  obtain ⟨A, hA⟩ : ∃ A : Nat, A = X ^^^ (X * 8192 % 18446744073709551616) := ⟨_, rfl⟩
  obtain ⟨B, hB⟩ : ∃ B : Nat, B = A ^^^ (A / 128) := ⟨_, rfl⟩
  obtain ⟨C, hC⟩ : ∃ C : Nat, C = B ^^^ (B * 131072 % 18446744073709551616) := ⟨_, rfl⟩
  have lA : A < 18446744073709551616 := by rw [hA]; exact Nat.xor_lt_two_pow (n := 64) (by omega) (by omega)
  have lB : B < 18446744073709551616 := by rw [hB]; exact Nat.xor_lt_two_pow (n := 64) (by omega) (by omega)
  have e1 := xor_nat (X := X) (Y := X * 8192 % 18446744073709551616) hX (by omega)
  have e2 := xor_nat (X := A) (Y := A / 128) lA (by omega)
  have e3 := xor_nat (X := B) (Y := B * 131072 % 18446744073709551616) lB (by omega)
  rw [← hA] at e1
  rw [← hB] at e2
  rw [← hC] at e3
  have hv : Sort.xorNextN X = C := by unfold Sort.xorNextN; simp only []; rw [← hA, ← hB, ← hC]
  rw [hv]
  clear hA hB hC hv
  simp only [bx6]
  simp only [go_sem, T_275, shl13, shl17, shr7, ge13, ge17, ge7, e1, e2, e3, nilCheckR]
  repeat (refine ⟨by kernel_rfl, ?_⟩)
  show _ = _
  kernel_rfl
theorem call230 (X : Nat) (hX : X < 18446744073709551616) (o : Option Ob) (n : Nat) (hm : 2 ≤ n) (rest : Heap) : (callV (LX T fns) n (.clo 230 []) [.ptr 1 0 0]).run (o :: some (.buf 1 [[.int .u64 X]] false true) :: rest) [] =
    some ((.int .u64 (Sort.xorNextN X : Nat), [(1, some (.buf 1 [[.int .u64 (Sort.xorNextN X : Nat)]] false true))]), [1]) := by
  have h := lim230 X hX
  simp only [bx6] at h
  have hf : fns 230 = some fn230 := rfl
  unfold callV
  simp only [hf]
  unfold callR
  simp only [fn230, List.cons_append, List.nil_append, List.append_nil, frzArgs, frz, frzAll, frzG, frzGAll, ms2, msUp, List.tail]
  simp only [V.allIds, V.ids, List.append_nil, List.nil_append, collect, List.map_nil, List.contains_nil, Bool.false_eq_true, if_false, Rd.run, Heap.at?, Ob.ids, rowsIds, List.map_cons, List.cons_append, List.contains_cons, Nat.reduceBEq, Bool.or_self, Bool.or_false, Bool.false_or, Bool.or_true, Bool.true_or, if_true]
  unfold withR
  simp only [List.map_cons, List.map_nil, upd1, List.all_nil, List.all_cons, show 1 < n by omega, decide_true, Bool.and_self, if_true, V.reAll, V.re, idx, Nat.beq, cond_true, cond_false, Option.bind_some, Option.map_some, pullObs, Ob.re, reRows, Nat.reduceAdd, h, List.length_cons, List.length_nil, Nat.le_refl]
  unfold afterR
  simp only [V.re, V.reAll, pushObs, back, nth, Ob.re, reRows, Option.bind_some, Option.map_some, List.isEmpty_cons, Bool.false_and, Bool.false_eq_true, if_false, Rd.run, List.append_nil, Nat.reduceAdd]
end Go.Proofs.Ytfdemnefkfkghaa.R
/- breakPatterns. -/
namespace Go.Proofs.Ytfdemnefkfkghaa.R
open Go Go.Proofs
set_option linter.unusedSimpArgs false
set_option linter.unusedVariables false
set_option maxRecDepth 100000
set_option maxHeartbeats 4000000
/-- What stands behind t rounds of breakPatterns' loop. -/
def bpS (a L M i0 : Nat) (d : Array Int) : Nat → UInt64 × Array Int
  | 0 => (UInt64.ofNat L, d)
  | t + 1 => Sort.breakStep a L M (bpS a L M i0 d t) (i0 + t)
theorem bpS_size {a L M i0 : Nat} {d : Array Int} : ∀ t, (bpS a L M i0 d t).2.size = d.size
  | 0 => rfl
  | t + 1 => by
    unfold bpS Sort.breakStep
    simp only [swp_size]
    exact bpS_size t
theorem bp_eq {d : Array Int} {a b i0 : Nat} (h8 : 8 ≤ b - a) (hi : a + (b - a) / 4 * 2 = i0 + 1) : Sort.breakPatterns d a b = (bpS a (b - a) (1 <<< Sort.bitsLen (b - a)) i0 d 3).2 := by
  unfold Sort.breakPatterns
  simp only [ge_iff_le, h8, if_true, hi, Nat.add_sub_cancel]
  rfl
theorem lim206 (d : Array Int) (a b n : Nat) (c : Option Nat) (hn : n = d.size) (hs : d.size < 1000000000) (hab : a + 12 < b) (hb : b ≤ d.size) : lim T fns 206 [.ms 0 1 0 n c, .int .i64 a, .int .i64 b] [ob1 d] =
    some (.tup [], [some (ob1 (Sort.breakPatterns d a b))]) := by
  subst hn
  refine fn_rule (fn := fn206) rfl rfl (by simp [fn206]) ?_
  unfold fn206
  simp only [Try.f206, Option.getD_some, argEnv, List.map_nil, List.length_nil]
  obtain ⟨i0, hi⟩ : ∃ t, a + (b - a) / 4 * 2 = t + 1 := ⟨a + (b - a) / 4 * 2 - 1, by omega⟩
  rw [bp_eq (by omega) hi]
  have w1 := wrap_sub (a := b) (b := a) (by omega) (by omega)
  generalize hL : b - a = L at *
  have hL8 : (L : Int) ≥ 8 := by omega
  have w2 := wrap_quart (n := L) (by omega)
  have w4 := wrap_x2 (n := L / 4) (by omega)
  have w7 := wrap_add2 (a := a) (b := L / 4 * 2) (by omega)
  have w8 := wrap_pred1 (j := i0) (by omega)
  have w9 := wrap_i64s (n := i0 + 1) (by omega)
  have wu := wrap_u64 (n := L) (by omega)
  have cN := call229 L (by omega)
  have hM2 : 1 <<< Sort.bitsLen L ≤ 2 * L := by
    rw [Nat.one_shiftLeft]
    exact Sort.two_pow_bitsLen_le (by omega)
  have hM1 : 1 ≤ 1 <<< Sort.bitsLen L := by
    rw [Nat.one_shiftLeft]
    exact Nat.two_pow_pos _
  rw [hi] at w7
  generalize 1 <<< Sort.bitsLen L = M at *
  have hM : IntKind.u64.wrap ((M : Int) - 1) = ((M - 1 : Nat) : Int) := by
    rw [show (M : Int) - 1 = ((M - 1 : Nat) : Int) by omega]
    exact wrap_u64 (by omega)
  simp only [ob1]
  simp only [go_sem, T_3, T_42, T_76, T_234, T_275, w1, w2, w4, w7, w8, wu, hL8, four0, cN]
  refine loop_rule (ι := Nat) (S := fun t => ⟨[(0, .ms 0 1 0 d.size c), (1, .int .i64 a), (6, .int .i64 L), (7, .ptr 1 0 0), (8, .int .u64 M), (9, .int .i64 ((i0 + t : Nat) : Int))], [some (.buf 1 (rw1 (bpS a L M i0 d t).2) false true), some (.buf 1 [[.int .u64 ((bpS a L M i0 d t).1.toNat : Nat)]] false true)]⟩) (m := fun t => 4 - t)
    (I := fun t => t ≤ 3) ?_ 0 _ (by omega) (by rw [show (bpS a L M i0 d 0).1.toNat = L from by show (UInt64.ofNat L).toNat = L; rw [UInt64.toNat_ofNat']; omega]; kernel_rfl)
  intro t ht
  by_cases h3 : t < 3
  · have hc : ((i0 + t : Nat) : Int) ≤ ((i0 + 1 + 1 : Nat) : Int) := by omega
    have hz := bpS_size (a := a) (L := L) (M := M) (i0 := i0) (d := d) t
    have hst : bpS a L M i0 d (t + 1) = Sort.breakStep a L M (bpS a L M i0 d t) (i0 + t) := rfl
    have c2 := call230 (bpS a L M i0 d t).1.toNat (UInt64.toNat_lt _)
    generalize bpS a L M i0 d t = st at *
    unfold Sort.breakStep at hst
    dsimp only at hst
    rw [Sort.xorNext_toNat] at hst
    have hxl := Sort.xorNextN_lt st.1.toNat (UInt64.toNat_lt _)
    have hand := and_nat (X := Sort.xorNextN st.1.toNat) (Y := M - 1) hxl (by omega)
    have hr := Sort.xorNext_toNat st.1
    generalize Sort.xorNextN st.1.toNat = X at *
    have hle : X &&& (M - 1) ≤ M - 1 := Nat.and_le_right
    generalize X &&& (M - 1) = o at *
    have wo := wrap_nat (n := o) (by omega)
    have wt := wrap_i64s (n := i0 + t) (by omega)
    by_cases ho : o ≥ L
    · have hoi : (o : Int) ≥ (L : Int) := by omega
      have w5 := wrap_sub (a := o) (b := L) (by omega) (by omega)
      have w6 := wrap_add2 (a := a) (b := o - L) (by omega)
      rw [if_pos ho] at hst
      have k1 : i0 + t < st.2.size := by omega
      have k2 : a + (o - L) < st.2.size := by omega
      have k1d : i0 + t < d.size := by omega
      have k2d : a + (o - L) < d.size := by omega
      have y1 := rw1_get k1
      have y2 := rw1_get k2
      obtain ⟨r3, y3⟩ := rw1_set (d := st.2) (i := i0 + t) (j := a + (o - L)) (x := .int .u32 st.2[a + (o - L)]!) k2
      have y4 := rw1_swp k1 k2
      simp only [go_sem, T_3, T_42, T_76, T_234, T_275, w2, w4, w7, w9, four0, hc, c2, hM, hand, wo, hoi, w5, w6, k1d, k2d, y1, y2, y3, y4, wt]
      repeat (refine ⟨by kernel_rfl, ?_⟩)
      exact ⟨t + 1, by omega, by simp only; omega, by simp only [hst, hr]; kernel_rfl⟩
    · have hoi : ¬ (o : Int) ≥ (L : Int) := by omega
      have w6 := wrap_add2 (a := a) (b := o) (by omega)
      rw [if_neg ho] at hst
      have k1 : i0 + t < st.2.size := by omega
      have k2 : a + o < st.2.size := by omega
      have k1d : i0 + t < d.size := by omega
      have k2d : a + o < d.size := by omega
      have y1 := rw1_get k1
      have y2 := rw1_get k2
      obtain ⟨r3, y3⟩ := rw1_set (d := st.2) (i := i0 + t) (j := a + o) (x := .int .u32 st.2[a + o]!) k2
      have y4 := rw1_swp k1 k2
      simp only [go_sem, T_3, T_42, T_76, T_234, T_275, w2, w4, w7, w9, four0, hc, c2, hM, hand, wo, hoi, w6, k1d, k2d, y1, y2, y3, y4, wt]
      repeat (refine ⟨by kernel_rfl, ?_⟩)
      exact ⟨t + 1, by omega, by simp only; omega, by simp only [hst, hr]; kernel_rfl⟩
  · have hc : ¬ ((i0 + t : Nat) : Int) ≤ ((i0 + 1 + 1 : Nat) : Int) := by omega
    obtain rfl : t = 3 := by omega
    simp only [go_sem, T_3, T_42, T_76, T_234, T_275, w2, w4, w7, w9, four0, hc]
    show _ = _
    kernel_rfl
theorem call206 (d : Array Int) (a b k : Nat) (c : Option Nat) (hk : k = d.size) (hs : d.size < 1000000000) (hab : a + 12 < b) (hb : b ≤ d.size) (n : Nat) (hm : 1 ≤ n) (rest : Heap) : (callV (LX T fns) n (.clo 206 []) [.ms 0 1 0 k c, .int .i64 a, .int .i64 b]).run (some (.buf 1 (rw1 d) false true) :: rest) [] =
    some ((.tup [], [(0, some (.buf 1 (rw1 (Sort.breakPatterns d a b)) false true))]), [0]) := by
  have h := lim206 d a b k c hk hs hab hb
  simp only [ob1] at h
  have hf : fns 206 = some fn206 := rfl
  unfold callV
  simp only [hf]
  unfold callR
  simp only [fn206, List.cons_append, List.nil_append, List.append_nil, frzArgs, frz, frzAll, frzG, frzGAll, ms2, msUp, List.tail]
  simp only [V.allIds, V.ids, List.append_nil, List.nil_append, collect, List.map_nil, List.contains_nil, Bool.false_eq_true, if_false, Rd.run, Heap.at?, Ob.ids, rowsIds, List.map_cons, List.cons_append, List.contains_cons, Nat.reduceBEq, Bool.or_self, Bool.or_false, Bool.false_or, Bool.or_true, Bool.true_or, if_true]
  unfold withR
  simp only [List.map_cons, List.map_nil, upd1, List.all_nil, List.all_cons, show 0 < n by omega, decide_true, Bool.and_self, if_true, V.reAll, V.re, idx, Nat.beq, cond_true, cond_false, Option.bind_some, Option.map_some, pullObs, Ob.re, reRows, Nat.reduceAdd, h, List.length_cons, List.length_nil, Nat.le_refl]
  unfold afterR
  simp only [V.re, V.reAll, pushObs, back, nth, Ob.re, reRows, Option.bind_some, Option.map_some, List.isEmpty_cons, Bool.false_and, Bool.false_eq_true, if_false, Rd.run, List.append_nil, Nat.reduceAdd]
end Go.Proofs.Ytfdemnefkfkghaa.R
/- pdqsortOrdered. -/
namespace Go.Proofs.Ytfdemnefkfkghaa.R
open Go Go.Proofs
set_option linter.unusedSimpArgs false
set_option linter.unusedVariables false
set_option maxRecDepth 100000
set_option maxHeartbeats 4000000
def PQ (P : St → Prop) (Q : Aft) : Aft := fun ex s => match ex with
  | .normal => P s
  | ex => Q ex s
theorem PQ_normal {P : St → Prop} {Q : Aft} {s : St} : PQ P Q .normal s ↔ P s := Iff.rfl
theorem PQ_exit {P : St → Prop} {Q : Aft} {s : St} {i : Nat} : PQ P Q (.exit i) s ↔ Q (.exit i) s := Iff.rfl
theorem PQ_ret {P : St → Prop} {Q : Aft} {s : St} : PQ P Q .ret s ↔ Q .ret s := Iff.rfl
theorem seq_post {cx : Cx} {fr : Fr} {A B : Code} {id : Option Nat} {s : St} {Q : Aft} (P : St → Prop) (h1 : W cx fr A none s (PQ P Q)) (h2 : ∀ s, P s → W cx fr B none s Q) : W cx fr (.seq A B) id s Q := by
  rw [W_seq]
  refine W_mono (fun ex s h => ?_) h1
  cases ex with
  | normal => exact h2 s h
  | exit i => exact h
  | ret => exact h
theorem W_assoc {cx : Cx} {fr : Fr} {A B C : Code} {id : Option Nat} {s : St} {Q : Aft} : W cx fr (.seq A (.seq B C)) id s Q ↔ W cx fr (.seq (.seq A B) C) id s Q := by
  rw [W_seq, W_seq, W_seq]
  have : SQ cx fr (.seq B C) Q = SQ cx fr B (SQ cx fr C Q) := by
    funext ex s
    cases ex with
    | normal => exact propext W_seq
    | exit i => rfl
    | ret => rfl
  rw [this]
/-- The round's last part: behind the pivot. -/
def pd3 (a b lim : Nat) (wb wp : Bool) (d3 : Array Int) (pivot : Nat) : Array Int :=
  if a > 0 && !lt1 d3[a - 1]! d3[pivot]! then
    match Sort.partitionEqual lt1 d3 a b pivot with
    | (mid, d4) => if _h : a < mid ∧ mid ≤ b then Sort.pdq lt1 d4 mid b lim wb wp else d4
  else
    match Sort.partition lt1 d3 a b pivot with
    | (mid, alreadyPartitioned, d4) =>
      if _h : a ≤ mid ∧ mid < b then
        if mid - a < b - mid then
          Sort.pdq lt1 (Sort.pdq lt1 d4 a mid lim true true) (mid + 1) b lim (decide (mid - a ≥ (b - a) / 8)) alreadyPartitioned
        else
          Sort.pdq lt1 (Sort.pdq lt1 d4 (mid + 1) b lim true true) a mid lim (decide (b - mid ≥ (b - a) / 8)) alreadyPartitioned
      else d4
def pd2 (a b lim : Nat) (wb wp : Bool) (d2 : Array Int) (pivot : Nat) (hint : Sort.Hint) : Array Int :=
  if (if wb && wp && hint = .increasing then Sort.partialInsertionSort lt1 d2 a b else (d2, false)).2 then (if wb && wp && hint = .increasing then Sort.partialInsertionSort lt1 d2 a b else (d2, false)).1
  else pd3 a b lim wb wp (if wb && wp && hint = .increasing then Sort.partialInsertionSort lt1 d2 a b else (d2, false)).1 pivot
def pd1 (a b lim : Nat) (wb wp : Bool) (d1 : Array Int) : Array Int :=
  pd2 a b lim wb wp (if (Sort.choosePivot lt1 d1 a b).2 = .decreasing then Sort.reverseRange d1 a b else d1)
    (if (Sort.choosePivot lt1 d1 a b).2 = .decreasing then (b - 1) - ((Sort.choosePivot lt1 d1 a b).1 - a) else (Sort.choosePivot lt1 d1 a b).1)
    (if (Sort.choosePivot lt1 d1 a b).2 = .decreasing then .increasing else (Sort.choosePivot lt1 d1 a b).2)
theorem pdq_eq (d : Array Int) (a b lim : Nat) (wb wp : Bool) : Sort.pdq lt1 d a b lim wb wp =
    if b - a ≤ 12 then Sort.insertionSort lt1 d a b else if lim = 0 then Sort.heapSort lt1 d a b else
    pd1 a b (if !wb then lim - 1 else lim) wb wp (if !wb then Sort.breakPatterns d a b else d) := by
  rw [Sort.pdq]
  rfl
end Go.Proofs.Ytfdemnefkfkghaa.R
/- pdqsortOrdered's walk (printed by mksj.py). -/
namespace Go.Proofs.Ytfdemnefkfkghaa.R
open Go Go.Proofs
set_option linter.unusedSimpArgs false
set_option linter.unusedVariables false
set_option maxRecDepth 100000
set_option maxHeartbeats 4000000
theorem call177_of (d r : Array Int) (a b l k : Nat) (c : Option Nat) (h0 : lim T fns 177 [.ms 0 1 0 k c, .int .i64 a, .int .i64 b, .int .i64 l] [ob1 d] = some (.tup [], [some (ob1 r)])) (n : Nat) (hm : 1 ≤ n) (rest : Heap) : (callV (LX T fns) n (.clo 177 []) [.ms 0 1 0 k c, .int .i64 a, .int .i64 b, .int .i64 l]).run (some (.buf 1 (rw1 d) false true) :: rest) [] =
    some ((.tup [], [(0, some (.buf 1 (rw1 r) false true))]), [0]) := by
  have h := h0
  simp only [ob1] at h
  have hf : fns 177 = some fn177 := rfl
  unfold callV
  simp only [hf]
  unfold callR
  simp only [fn177, List.cons_append, List.nil_append, List.append_nil, frzArgs, frz, frzAll, frzG, frzGAll, ms2, msUp, List.tail]
  simp only [V.allIds, V.ids, List.append_nil, List.nil_append, collect, List.map_nil, List.contains_nil, Bool.false_eq_true, if_false, Rd.run, Heap.at?, Ob.ids, rowsIds, List.map_cons, List.cons_append, List.contains_cons, Nat.reduceBEq, Bool.or_self, Bool.or_false, Bool.false_or, Bool.or_true, Bool.true_or, if_true]
  unfold withR
  simp only [List.map_cons, List.map_nil, upd1, List.all_nil, List.all_cons, show 0 < n by omega, decide_true, Bool.and_self, if_true, V.reAll, V.re, idx, Nat.beq, cond_true, cond_false, Option.bind_some, Option.map_some, pullObs, Ob.re, reRows, Nat.reduceAdd, h, List.length_cons, List.length_nil, Nat.le_refl]
  unfold afterR
  simp only [V.re, V.reAll, pushObs, back, nth, Ob.re, reRows, Option.bind_some, Option.map_some, List.isEmpty_cons, Bool.false_and, Bool.false_eq_true, if_false, Rd.run, List.append_nil, Nat.reduceAdd]
theorem wrap_eighth {n : Nat} (h : n < 1000000000000000000) : IntKind.i64.wrap ((n : Int).tdiv 8) = ((n / 8 : Nat) : Int) := by
  have e : (n : Int).tdiv 8 = ((n / 8 : Nat) : Int) := rfl
  rw [e, wrap_i64 (by omega) (by omega)]
theorem eight0 : ¬ (8 : Int) = 0 := by decide
theorem decge (a b : Nat) : decide ((a : Int) ≥ (b : Int)) = decide (a ≥ b) := by
  by_cases h : a ≥ b
  · have : (a : Int) ≥ (b : Int) := by omega
    simp [h, this]
  · have : ¬ (a : Int) ≥ (b : Int) := by omega
    simp [h, this]
theorem nat0 : ((0 : Nat) : Int) = 0 := rfl
theorem zt02 : ¬ (0 : Int) = 2 := by decide
theorem zt12 : ¬ (1 : Int) = 2 := by decide
theorem zt01 : ¬ (0 : Int) = 1 := by decide
theorem zt21 : ¬ (2 : Int) = 1 := by decide
theorem lim177 : ∀ (N : Nat) (d : Array Int) (a b l n : Nat) (c : Option Nat), b - a < N → n = d.size → d.size < 1000000000 → a ≤ b → b ≤ d.size → l < 1000000 → Sort.Below lt1 a b d →
    lim T fns 177 [.ms 0 1 0 n c, .int .i64 a, .int .i64 b, .int .i64 l] [ob1 d] = some (.tup [], [some (ob1 (Sort.pdq lt1 d a b l true true))])
  | 0, _, _, _, _, _, _, h, _, _, _, _, _, _ => absurd h (Nat.not_lt_zero _)
  | N + 1, d, a0, b0, lim0, n, c, hN, hn, hs, hab, hb, hl0, hB => by
    subst hn
    have SW := Sort.swo_ltInt
    refine fn_rule (fn := fn177) rfl rfl (by simp [fn177]) ?_
    unfold fn177
    simp only [Try.f177, Option.getD_some, argEnv, List.map_nil, List.length_nil]
    simp only [ob1]
    simp only [go_sem, T_3, T_4, T_42, T_76, T_260]
    refine loop_rule (ι := Nat × Nat × Nat × Bool × Bool × Array Int) (S := fun p => ⟨[(0, .ms 0 1 0 d.size c), (1, .int .i64 p.1), (2, .int .i64 p.2.1), (3, .int .i64 p.2.2.1), (8, .bool p.2.2.2.1), (9, .bool p.2.2.2.2.1)], [some (.buf 1 (rw1 p.2.2.2.2.2) false true)]⟩) (m := fun p => p.2.1 - p.1)
      (I := fun p => p.2.1 - p.1 < N + 1 ∧ p.1 ≤ p.2.1 ∧ p.2.1 ≤ d.size ∧ p.2.2.1 < 1000000 ∧ p.2.2.2.2.2.size = d.size ∧ Sort.Below lt1 p.1 p.2.1 p.2.2.2.2.2 ∧ Sort.pdq lt1 p.2.2.2.2.2 p.1 p.2.1 p.2.2.1 p.2.2.2.1 p.2.2.2.2.1 = Sort.pdq lt1 d a0 b0 lim0 true true) ?_ (a0, b0, lim0, true, true, d) _ ⟨hN, hab, hb, hl0, rfl, hB, rfl⟩ (by kernel_rfl)
    rintro ⟨a, b, l, wb, wp, e⟩ ⟨hN, hab, hb, hl, hz, hB, h5⟩
    simp only at hN hab hb hl hz hB h5
    rw [pdq_eq] at h5
    have w1 := wrap_sub (a := b) (b := a) (by omega) (by omega)
    by_cases h12 : b - a ≤ 12
    · have h12i : ((b - a : Nat) : Int) ≤ 12 := by omega
      rw [if_pos h12] at h5
      rw [← h5]
      have hc := fun (n : Nat) (hm : 1 ≤ n) (rest : Heap) => call204 e a b e.size c rfl (by omega) (by omega) (by omega) n hm rest
      rw [hz] at hc
      simp only [go_sem, T_3, T_4, T_42, T_76, T_260, w1, h12i, hc]
      show _ = _
      kernel_rfl
    · have h12i : ¬ ((b - a : Nat) : Int) ≤ 12 := by omega
      rw [if_neg h12] at h5
      by_cases hlz : l = 0
      · have hlzi : (l : Int) = 0 := by omega
        rw [if_pos hlz] at h5
        rw [← h5]
        have hc := call205 e a b d.size c hz.symm (by omega) (by omega) (by omega)
        subst hlz
        simp only [go_sem, T_3, T_4, T_42, T_76, T_260, w1, h12i, hc, nat0]
        show _ = _
        kernel_rfl
      · rw [if_neg hlz] at h5
        obtain ⟨k, rfl⟩ : ∃ t, l = t + 1 := ⟨l - 1, by omega⟩
        have hlzi : ¬ ((k + 1 : Nat) : Int) = 0 := by omega
        have wl := wrap_pred1 (j := k) (by omega)
        rw [W_block, W_assoc, W_assoc, W_assoc]
        have hP1 : Sort.PermIn a b e (if !wb then Sort.breakPatterns e a b else e) := Sort.step_break e hab (by omega) _
        refine seq_post (fun s => ∃ E H, s = ⟨E, some (.buf 1 (rw1 (if !wb then Sort.breakPatterns e a b else e)) false true) :: H⟩ ∧ lk E 0 = .ms 0 1 0 d.size c ∧ lk E 1 = .int .i64 a ∧ lk E 2 = .int .i64 b ∧ lk E 3 = .int .i64 (if !wb then k + 1 - 1 else k + 1 : Nat) ∧ lk E 8 = .bool wb ∧ lk E 9 = .bool wp ∧ lk E 10 = .int .i64 ((b - a : Nat) : Int)) ?_ ?_
        · cases wb with
          | true =>
            simp only [go_sem, T_3, T_4, T_42, T_76, T_260, w1, h12i, hlzi, PQ_normal, PQ_exit, PQ_ret]
            exact ⟨_, _, rfl, rfl, rfl, rfl, rfl, rfl, rfl, rfl⟩
          | false =>
            have hc := call206 e a b d.size c hz.symm (by omega) (by omega) (by omega)
            simp only [go_sem, T_3, T_4, T_42, T_76, T_260, w1, h12i, hlzi, wl, hc, PQ_normal, PQ_exit, PQ_ret]
            exact ⟨_, _, rfl, rfl, rfl, rfl, rfl, rfl, rfl, rfl⟩
        · rintro s ⟨E, H, rfl, l0, l1, l2, l3, l4, l5, l6⟩
          have hl1 : (if !wb then k + 1 - 1 else k + 1) < 1000000 := by split <;> omega
          generalize (if !wb then k + 1 - 1 else k + 1) = m at *
          have hz1 := hP1.1
          rw [hz] at hz1
          have hB1 := hB.perm (by omega) hP1
          generalize (if !wb then Sort.breakPatterns e a b else e) = d1 at *
          clear hP1 hB hz hlz hlzi wl hl
          unfold pd1 at h5
          have hP2 : Sort.PermIn a b d1 (if (Sort.choosePivot lt1 d1 a b).2 = .decreasing then Sort.reverseRange d1 a b else d1) := Sort.step_reverse Sort.reverseRange_holds d1 hab (by omega) _
          have hcp := Sort.choosePivot_holds lt1 d1 a b (by omega)
          have hpv := Sort.pivot_range hcp.1 hcp.2 ((Sort.choosePivot lt1 d1 a b).2 = .decreasing)
          have hc := call207 d1 a b d.size c hz1.symm (by omega) (by omega) (by omega)
          generalize Sort.choosePivot lt1 d1 a b = cp at *
          obtain ⟨cpv, ch⟩ := cp
          simp only at hcp hc hP2 h5 hpv
          rw [W_assoc]
          refine seq_post (fun s => ∃ E H, s = ⟨E, some (.buf 1 (rw1 (if ch = .decreasing then Sort.reverseRange d1 a b else d1)) false true) :: H⟩ ∧ lk E 0 = .ms 0 1 0 d.size c ∧ lk E 1 = .int .i64 a ∧ lk E 2 = .int .i64 b ∧ lk E 3 = .int .i64 (m : Nat) ∧ lk E 8 = .bool wb ∧ lk E 9 = .bool wp ∧ lk E 10 = .int .i64 ((b - a : Nat) : Int) ∧ lk E 11 = .int .i64 ((if ch = .decreasing then (b - 1) - (cpv - a) else cpv : Nat) : Int) ∧ lk E 12 = .int .i64 (hintN (if ch = .decreasing then .increasing else ch))) ?_ ?_
          · cases ch with
            | unknown =>
              simp only [go_sem, T_3, T_4, T_42, T_76, T_260, l0, l1, l2, l3, l4, l5, l6, hc, hintN, PQ_normal, PQ_exit, PQ_ret, zt02]
              exact ⟨_, _, rfl, l0, l1, l2, l3, l4, l5, l6, rfl, rfl⟩
            | increasing =>
              simp only [go_sem, T_3, T_4, T_42, T_76, T_260, l0, l1, l2, l3, l4, l5, l6, hc, hintN, PQ_normal, PQ_exit, PQ_ret, zt12]
              exact ⟨_, _, rfl, l0, l1, l2, l3, l4, l5, l6, rfl, rfl⟩
            | decreasing =>
              have hr := call208 d1 a b d.size c hz1.symm (by omega) (by omega) (by omega)
              obtain ⟨b, rfl⟩ : ∃ t, b = t + 1 := ⟨b - 1, by omega⟩
              have v1 := wrap_pred1 (j := b) (by omega)
              have v2 := wrap_sub (a := cpv) (b := a) (by omega) (by omega)
              have v3 := wrap_sub (a := b) (b := cpv - a) (by omega) (by omega)
              simp only [go_sem, T_3, T_4, T_42, T_76, T_260, l0, l1, l2, l3, l4, l5, l6, hc, hr, hintN, PQ_normal, PQ_exit, PQ_ret, v1, v2, v3]
              exact ⟨_, _, rfl, l0, l1, l2, l3, l4, l5, l6, rfl, rfl⟩
          · rintro s ⟨E, H, rfl, l0, l1, l2, l3, l4, l5, l6, l7, l8⟩
            have hpv2 : a ≤ (if ch = .decreasing then (b - 1) - (cpv - a) else cpv) ∧ (if ch = .decreasing then (b - 1) - (cpv - a) else cpv) < b := hpv
            have hz2 := hP2.1
            rw [hz1] at hz2
            have hB2 := hB1.perm (by omega) hP2
            clear hpv hc hcp
            generalize (if ch = .decreasing then Sort.reverseRange d1 a b else d1) = d2 at *
            generalize (if ch = .decreasing then (b - 1) - (cpv - a) else cpv) = pv at *
            generalize (if ch = .decreasing then Sort.Hint.increasing else ch) = hi at *
            clear hP2 hB1 hz1
            unfold pd2 at h5
            have hP3 : Sort.PermIn a b d2 (if (wb && wp && decide (hi = .increasing)) = true then Sort.partialInsertionSort lt1 d2 a b else (d2, false)).1 := (Sort.step_partial Sort.partialInsertionSort_holds SW d2 (a := a) (b := b) (by omega) (by omega) hB2 ((wb && wp && decide (hi = .increasing)) = true)).1
            generalize hpi : (if (wb && wp && decide (hi = .increasing)) = true then Sort.partialInsertionSort lt1 d2 a b else (d2, false)) = pi at *
            refine seq_post (fun s => ∃ E H, s = ⟨E, some (.buf 1 (rw1 (pi.1)) false true) :: H⟩ ∧ lk E 0 = .ms 0 1 0 d.size c ∧ lk E 1 = .int .i64 a ∧ lk E 2 = .int .i64 b ∧ lk E 3 = .int .i64 (m : Nat) ∧ lk E 8 = .bool wb ∧ lk E 9 = .bool wp ∧ lk E 10 = .int .i64 ((b - a : Nat) : Int) ∧ lk E 11 = .int .i64 (pv : Nat) ∧ pi.2 = false) ?_ ?_
            · cases wb with
              | false =>
                obtain rfl : (d2, false) = pi := hpi
                simp only [go_sem, T_3, T_4, T_42, T_76, T_260, l0, l1, l2, l3, l4, l5, l6, l7, l8, PQ_normal, PQ_exit, PQ_ret]
                exact ⟨_, _, rfl, l0, l1, l2, l3, l4, l5, l6, l7⟩
              | true =>
                cases wp with
                | false =>
                  obtain rfl : (d2, false) = pi := hpi
                  simp only [go_sem, T_3, T_4, T_42, T_76, T_260, l0, l1, l2, l3, l4, l5, l6, l7, l8, PQ_normal, PQ_exit, PQ_ret]
                  exact ⟨_, _, rfl, l0, l1, l2, l3, l4, l5, l6, l7⟩
                | true =>
                  cases hi with
                  | unknown =>
                    obtain rfl : (d2, false) = pi := hpi
                    simp only [go_sem, T_3, T_4, T_42, T_76, T_260, l0, l1, l2, l3, l4, l5, l6, l7, l8, PQ_normal, PQ_exit, PQ_ret, hintN, zt01]
                    exact ⟨_, _, rfl, l0, l1, l2, l3, l4, l5, l6, l7⟩
                  | decreasing =>
                    obtain rfl : (d2, false) = pi := hpi
                    simp only [go_sem, T_3, T_4, T_42, T_76, T_260, l0, l1, l2, l3, l4, l5, l6, l7, l8, PQ_normal, PQ_exit, PQ_ret, hintN, zt21]
                    exact ⟨_, _, rfl, l0, l1, l2, l3, l4, l5, l6, l7⟩
                  | increasing =>
                    have hpi : Sort.partialInsertionSort lt1 d2 a b = pi := hpi
                    have hc := call209 d2 a b d.size c hz2.symm (by omega) (by omega) (by omega)
                    rw [hpi] at hc
                    obtain ⟨pa, pb⟩ := pi
                    cases pb with
                    | true =>
                      have h5 : pa = Sort.pdq lt1 d a0 b0 lim0 true true := h5
                      simp only [go_sem, T_3, T_4, T_42, T_76, T_260, l0, l1, l2, l3, l4, l5, l6, l7, l8, PQ_normal, PQ_exit, PQ_ret, hintN, hc]
                      rw [← h5]
                      show _ = _
                      kernel_rfl
                    | false =>
                      simp only [go_sem, T_3, T_4, T_42, T_76, T_260, l0, l1, l2, l3, l4, l5, l6, l7, l8, PQ_normal, PQ_exit, PQ_ret, hintN, hc]
                      exact ⟨_, _, rfl, l0, l1, l2, l3, l4, l5, l6, l7⟩
            · rintro s ⟨E, H, rfl, l0, l1, l2, l3, l4, l5, l6, l7, hp2⟩
              rw [if_neg (by rw [hp2]; simp)] at h5
              have hz3 := hP3.1
              rw [hz2] at hz3
              have hB3 := hB2.perm (by omega) hP3
              obtain ⟨d3, pb⟩ := pi
              simp only at h5 hz3 hB3
              clear hpi hP3 hB2 hz2 hp2
              obtain ⟨hpv1, hpv2⟩ := hpv2
              unfold pd3 at h5
              have q2 : pv < d3.size := by omega
              have q2d : pv < d.size := by omega
              have z2 := rw1_get q2
              by_cases hcd : (decide (a > 0) && !lt1 d3[a - 1]! d3[pv]!) = true
              · rw [if_pos hcd] at h5
                obtain ⟨t, rfl⟩ : ∃ t, a = t + 1 := ⟨a - 1, by
                  have := (Bool.and_eq_true _ _ ▸ hcd).1
                  have := of_decide_eq_true this
                  omega⟩
                rw [Nat.add_sub_cancel] at hcd
                have hlf : lt1 d3[t]! d3[pv]! = false := by simpa using hcd
                have hgt : ((t + 1 : Nat) : Int) > 0 := by omega
                have q1 : t < d3.size := by omega
                have q1d : t < d.size := by omega
                have z1 := rw1_get q1
                have v1 := wrap_pred1 (j := t) (by omega)
                have hc := call210 d3 (t + 1) b pv d.size c hz3.symm (by omega) hpv1 hpv2 (by omega) (by omega)
                generalize hpe : Sort.partitionEqual lt1 d3 (t + 1) b pv = pr at *
                obtain ⟨mid, d4⟩ := pr
                obtain ⟨r1, r2, r3, r4, _⟩ := Sort.round_eq SW (Sort.partitionEqual_holds lt1) (by omega) hpv1 hpv2 (by omega) hB3 (by rw [Nat.add_sub_cancel]; exact hlf) hpe
                simp only at hc h5
                rw [dif_pos ⟨r1, r2⟩] at h5
                simp only [go_sem, T_3, T_4, T_42, T_76, T_260, l0, l1, l2, l3, l4, l5, l6, l7, hgt, v1, q1d, q2d, z1, z2, call175, lt1_eq, hlf, hc]
                exact ⟨(mid, b, m, wb, wp, d4), ⟨by simp only; omega, r2, by simp only; omega, hl1, by simp only; omega, r4, h5⟩, by simp only; omega, (by simp only [head, gcOf, Nat.beq, cond_true, cond_false, gc, thaw, live, lk, l0, l1, l2, l3, l4, l5]; kernel_rfl)⟩
              · rw [if_neg hcd] at h5
                refine seq_post (fun s => ∃ E H, s = ⟨E, some (.buf 1 (rw1 (d3)) false true) :: H⟩ ∧ lk E 0 = .ms 0 1 0 d.size c ∧ lk E 1 = .int .i64 a ∧ lk E 2 = .int .i64 b ∧ lk E 3 = .int .i64 (m : Nat) ∧ lk E 8 = .bool wb ∧ lk E 9 = .bool wp ∧ lk E 10 = .int .i64 ((b - a : Nat) : Int) ∧ lk E 11 = .int .i64 (pv : Nat)) ?_ ?_
                · cases a with
                  | zero =>
                    have hgt : ¬ ((0 : Nat) : Int) > 0 := by decide
                    simp only [go_sem, T_3, T_4, T_42, T_76, T_260, l0, l1, l2, l3, l4, l5, l6, l7, hgt, PQ_normal, PQ_exit, PQ_ret]
                    exact ⟨_, _, rfl, l0, l1, l2, l3, l4, l5, l6, l7⟩
                  | succ t =>
                    rw [Nat.add_sub_cancel] at hcd
                    have hlf : lt1 d3[t]! d3[pv]! = true := by simpa using hcd
                    have hgt : ((t + 1 : Nat) : Int) > 0 := by omega
                    have q1 : t < d3.size := by omega
                    have q1d : t < d.size := by omega
                    have z1 := rw1_get q1
                    have v1 := wrap_pred1 (j := t) (by omega)
                    simp only [go_sem, T_3, T_4, T_42, T_76, T_260, l0, l1, l2, l3, l4, l5, l6, l7, hgt, v1, q1d, q2d, z1, z2, call175, lt1_eq, hlf, PQ_normal, PQ_exit, PQ_ret]
                    exact ⟨_, _, rfl, l0, l1, l2, l3, l4, l5, l6, l7⟩
                · rintro s ⟨E, H, rfl, l0, l1, l2, l3, l4, l5, l6, l7⟩
                  have hc := call211 d3 a b pv d.size c hz3.symm (by omega) hpv1 hpv2 (by omega) (by omega)
                  generalize hpe : Sort.partition lt1 d3 a b pv = pr at *
                  obtain ⟨mid, ap, d4⟩ := pr
                  obtain ⟨g1, g2, g3, gA, gR, hleft, hright⟩ := Sort.round_part SW (Sort.partition_holds lt1) hpv1 hpv2 (by omega) hB3 hpe
                  simp only at hc h5
                  rw [dif_pos ⟨g1, g2⟩] at h5
                  have v1 := wrap_sub (a := mid) (b := a) (by omega) g1
                  have v2 := wrap_sub (a := b) (b := mid) (by omega) (by omega)
                  have v3 := wrap_eighth (n := b - a) (by omega)
                  have v4 := wrap_i64s (n := mid) (by omega)
                  by_cases hlt : mid - a < b - mid
                  · rw [if_pos hlt] at h5
                    have hr := call177_of d4 _ a mid m d.size c (lim177 N d4 a mid m d.size c (by omega) (by omega) (by omega) g1 (by omega) hl1 gA)
                    have hp := Sort.pdq_sorts lt1 SW d4 a mid m true true g1 (by omega) gA
                    have hBn := (hleft _ hp.1 hp.2).1
                    have hzn := hp.1.1
                    generalize Sort.pdq lt1 d4 a mid m true true = d5 at *
                    simp only [go_sem, T_3, T_4, T_42, T_76, T_260, l0, l1, l2, l3, l4, l5, l6, l7, hc, v1, v2, v3, v4, hlt, eight0, hr, decge]
                    exact ⟨(mid + 1, b, m, decide (mid - a ≥ (b - a) / 8), ap, d5), ⟨by simp only; omega, by simp only; omega, by simp only; omega, hl1, by simp only; omega, hBn, h5⟩, by simp only; omega, (by simp only [head, gcOf, Nat.beq, cond_true, cond_false, gc, thaw, live, lk, l0, l1, l2, l3, l4, l5]; kernel_rfl)⟩
                  · rw [if_neg hlt] at h5
                    have hr := call177_of d4 _ (mid + 1) b m d.size c (lim177 N d4 (mid + 1) b m d.size c (by omega) (by omega) (by omega) (by omega) (by omega) hl1 gR)
                    have hp := Sort.pdq_sorts lt1 SW d4 (mid + 1) b m true true (by omega) (by omega) gR
                    have hBn := (hright _ hp.1 hp.2).1
                    have hzn := hp.1.1
                    generalize Sort.pdq lt1 d4 (mid + 1) b m true true = d5 at *
                    simp only [go_sem, T_3, T_4, T_42, T_76, T_260, l0, l1, l2, l3, l4, l5, l6, l7, hc, v1, v2, v3, v4, hlt, eight0, hr, decge]
                    exact ⟨(a, mid, m, decide (b - mid ≥ (b - a) / 8), ap, d5), ⟨by simp only; omega, by simp only; omega, by simp only; omega, hl1, by simp only; omega, hBn, h5⟩, by simp only; omega, (by simp only [head, gcOf, Nat.beq, cond_true, cond_false, gc, thaw, live, lk, l0, l1, l2, l3, l4, l5]; kernel_rfl)⟩
end Go.Proofs.Ytfdemnefkfkghaa.R
/- slices.Sort. -/
namespace Go.Proofs.Ytfdemnefkfkghaa.R
open Go Go.Proofs
set_option linter.unusedSimpArgs false
set_option linter.unusedVariables false
set_option maxRecDepth 100000
set_option maxHeartbeats 4000000
/-- The numbers in order. -/
def sortI (l : List Int) : List Int := l.mergeSort (fun x y => decide (x ≤ y))
theorem sortI_eq (l : List Int) : (Sort.sort lt1 l.toArray).toList = sortI l := Sort.sortInt l
theorem rw1_list (l : List Int) : rw1 l.toArray = l.map (Cd.int .u32).enc := rfl
theorem lim122a (d : Array Int) (n : Nat) (c : Option Nat) (hn : n = d.size) (hs : d.size < 1000000000) : lim T fns 122 [.ms 0 1 0 n c] [ob1 d] = some (.tup [], [some (ob1 (Sort.sort lt1 d))]) := by
  subst hn
  refine fn_rule (fn := fn122) rfl rfl (by simp [fn122]) ?_
  unfold fn122
  simp only [Try.f122, Option.getD_some, argEnv, List.map_nil, List.length_nil]
  have hb : Sort.bitsLen d.size ≤ 62 := (Sort.bitsLen_le_iff _ 62).2 (by omega)
  have h1 := lim177 (d.size + 1) d 0 d.size (Sort.bitsLen d.size) d.size c (by omega) rfl hs (by omega) (Nat.le_refl _) (by omega) (Or.inl rfl)
  have h2 : lim T fns 177 [.ms 0 1 0 d.size c, .int .i64 ((0 : Nat) : Int), .int .i64 d.size, .int .i64 (Sort.bitsLen d.size : Nat)] [ob1 d] = some (.tup [], [some (ob1 (Sort.sort lt1 d))]) := h1
  have h3 := fun (n : Nat) (hm : 1 ≤ n) (rest : Heap) => call177_of d _ 0 d.size (Sort.bitsLen d.size) d.size c h2 n hm rest
  simp only [nat0] at h3
  simp only [ob1]
  simp only [go_sem, T_3, T_42, T_76, T_234, wrap_u64 (show d.size < 1000000000000000000 by omega), call178 d.size (by omega), h3]
  show _ = _
  kernel_rfl
theorem lim122 (l : List Int) (c : Option Nat) (hs : l.length < 1000000000) : lim T fns 122 [.ms 0 1 0 l.length c] [.buf 1 (l.map (Cd.int .u32).enc) false true] = some (.tup [], [some (.buf 1 ((sortI l).map (Cd.int .u32).enc) false true)]) := by
  have h := lim122a l.toArray l.length c (by simp) (by simpa using hs)
  unfold ob1 at h
  rw [rw1_list] at h
  rw [h]
  unfold rw1
  rw [sortI_eq]
theorem call122 (l : List Int) (c : Option Nat) (hs : l.length < 1000000000) (n : Nat) (hm : 1 ≤ n) (rest : Heap) : (callV (LX T fns) n (.clo 122 []) [.ms 0 1 0 l.length c]).run (some (.buf 1 (l.map (Cd.int .u32).enc) false true) :: rest) [] =
    some ((.tup [], [(0, some (.buf 1 ((sortI l).map (Cd.int .u32).enc) false true))]), [0]) := by
  have h := lim122 l c hs
  have hf : fns 122 = some fn122 := rfl
  unfold callV
  simp only [hf]
  unfold callR
  simp only [fn122, List.cons_append, List.nil_append, List.append_nil, frzArgs, frz, frzAll, frzG, frzGAll, ms2, msUp, List.tail]
  simp only [V.allIds, V.ids, List.append_nil, List.nil_append, collect, List.map_nil, List.contains_nil, Bool.false_eq_true, if_false, Rd.run, Heap.at?, Ob.ids, rowsIds, List.map_cons, List.cons_append, List.contains_cons, Nat.reduceBEq, Bool.or_self, Bool.or_false, Bool.false_or, Bool.or_true, Bool.true_or, if_true]
  unfold withR
  simp only [List.map_cons, List.map_nil, upd1, List.all_nil, List.all_cons, show 0 < n by omega, decide_true, Bool.and_self, if_true, V.reAll, V.re, idx, Nat.beq, cond_true, cond_false, Option.bind_some, Option.map_some, pullObs, Ob.re, reRows, Nat.reduceAdd, h, List.length_cons, List.length_nil, Nat.le_refl]
  unfold afterR
  simp only [V.re, V.reAll, pushObs, back, nth, Ob.re, reRows, Option.bind_some, Option.map_some, List.isEmpty_cons, Bool.false_and, Bool.false_eq_true, if_false, Rd.run, List.append_nil, Nat.reduceAdd]
end Go.Proofs.Ytfdemnefkfkghaa.R
/- ref09.has, put. -/
namespace Go.Proofs.Ytfdemnefkfkghaa.R
open Go Go.Proofs
set_option linter.unusedSimpArgs false
set_option linter.unusedVariables false
set_option maxRecDepth 100000
set_option maxHeartbeats 4000000
def hasB (b : Int) (l : List Int) : Bool := l.any fun x => x == b
theorem any_dropI {f : Int → Bool} {l : List Int} {i : Nat} (h : i < l.length) : (l.drop i).any f = (f l[i] || (l.drop (i + 1)).any f) := by
  rw [List.drop_eq_getElem_cons h]
  rfl
theorem lim214 (l : List Int) (b : Int) (hl : l.length < 1000000000000) : lim T fns 214 [.fz (l.map (Cd.int .u32).enc), .int .u32 b] [] = some (.bool (hasB b l), []) := by
  refine fn_rule (fn := fn214) rfl rfl (by simp [fn214]) ?_
  unfold fn214
  simp only [Try.f214, Option.getD_some, argEnv, List.map_nil, List.length_nil]
  simp only [go_sem, T_3, T_42, T_76]
  refine loop_rule (ι := Nat) (S := fun i => ⟨[(0, .fz (l.map (Cd.int .u32).enc)), (1, .int .u32 b), (7, .int .i64 l.length), (8, .int .i64 i)], []⟩) (m := fun i => l.length + 1 - i)
    (I := fun i => i ≤ l.length ∧ ((l.drop i).any fun x => x == b) = hasB b l) ?_ 0 _ ⟨by omega, by simp [hasB]⟩ (by kernel_rfl)
  rintro i ⟨hi, hg⟩
  by_cases hlt : i < l.length
  · have hx : l[i]? = some l[i] := List.getElem?_eq_getElem hlt
    rw [any_dropI hlt] at hg
    by_cases hb : l[i] = b
    · have hbb : (l[i] == b) = true := by simpa using hb
      rw [hbb, Bool.true_or] at hg
      rw [← hg]
      simp only [go_sem, T_3, T_42, T_76, hlt, hx, hb]
    · have hbb : (l[i] == b) = false := by simpa using hb
      rw [hbb, Bool.false_or] at hg
      simp only [go_sem, T_3, T_42, T_76, hlt, hx, hb, hbb, wrap_i64s (show i < 1000000000000000000 by omega)]
      exact ⟨i + 1, ⟨by omega, hg⟩, by simp only; omega, by kernel_rfl⟩
  · rw [List.drop_eq_nil_of_le (by omega)] at hg
    rw [← hg]
    simp only [go_sem, T_3, T_42, T_76, hlt]
    show _ = _
    kernel_rfl
theorem call214 (l : List Int) (b : Int) (hl : l.length < 1000000000000) (n : Nat) : callV (LX T fns) n (.clo 214 []) [.fz (l.map (Cd.int .u32).enc), .int .u32 b] = .pure (.bool (hasB b l), []) := callV_plain (fn := fn214) rfl rfl rfl (lim214 l b hl) n
/-- Put at its place. -/
def putG (b : Int) : Bool → List Int → List Int
  | done, [] => if done then [] else [b]
  | done, x :: r => if !done && decide (b < x) then b :: x :: putG b true r else x :: putG b done r
def putB (l : List Int) (b : Int) : List Int := if hasB b l then l else putG b false l
theorem putG_true (b : Int) : ∀ l, putG b true l = l
  | [] => rfl
  | x :: r => by simp [putG, putG_true b r]
theorem lim179 (l : List Int) (b : Int) (hl : l.length < 1000000000) : lim T fns 179 [.fz (l.map (Cd.int .u32).enc), .int .u32 b] [] = some (.fz ((putB l b).map (Cd.int .u32).enc), []) := by
  refine fn_rule (fn := fn179) rfl rfl (by simp [fn179]) ?_
  unfold fn179
  simp only [Try.f179, Option.getD_some, argEnv, List.map_nil, List.length_nil]
  unfold putB
  cases hh : hasB b l with
  | true =>
    simp only [go_sem, T_1, T_3, T_4, T_42, T_76, call214 l b (by omega), hh]
  | false =>
    simp only [go_sem, T_1, T_3, T_4, T_42, T_76, call214 l b (by omega), hh]
    refine loop_rule (ι := Nat × List Int × Bool) (S := fun p => ⟨[(0, .fz (l.map (Cd.int .u32).enc)), (1, .int .u32 b), (5, .ms 0 1 0 p.2.1.length none), (6, .bool p.2.2), (14, .int .i64 l.length), (15, .int .i64 p.1)], [some (.buf 1 (p.2.1.map (Cd.int .u32).enc) false true)]⟩) (m := fun p => l.length + 1 - p.1)
      (I := fun p => p.1 ≤ l.length ∧ p.2.1.length ≤ 2 * p.1 ∧ p.2.1 ++ putG b p.2.2 (l.drop p.1) = putG b false l) ?_ (0, [], false) _ ⟨by simp, by simp, by simp⟩ (by kernel_rfl)
    rintro ⟨i, o, dn⟩ ⟨hi, ho, hg⟩
    simp only at hi ho hg
    have o1 : (o.length + 1) * 4 ≤ 140737488355328 := by omega
    have o2 : o.length + 1 ≤ 140737488355328 := by omega
    have o3 : (o.length + 1 + 1) * 4 ≤ 140737488355328 := by omega
    have o4 : o.length + 1 + 1 ≤ 140737488355328 := by omega
    by_cases hlt : i < l.length
    · have hx : l[i]? = some l[i] := List.getElem?_eq_getElem hlt
      rw [List.drop_eq_getElem_cons hlt] at hg
      have wi := wrap_i64s (show i < 1000000000000000000 by omega)
      cases dn with
      | true =>
        simp only [putG, Bool.not_true, Bool.false_and, Bool.false_eq_true, if_false] at hg
        simp only [go_sem, T_1, T_3, T_4, T_42, T_76, hlt, hx, wi, o1, o2, o3, o4]
        exact ⟨(i + 1, o ++ [l[i]], true), ⟨by simp only; omega, by simp; omega, by simpa using hg⟩, by simp only; omega, by simp only [List.map_append, List.length_append]; kernel_rfl⟩
      | false =>
        by_cases hb : b < l[i]
        · simp only [putG, Bool.not_false, Bool.true_and, hb, decide_true, if_true] at hg
          simp only [go_sem, T_1, T_3, T_4, T_42, T_76, hlt, hx, wi, hb, o1, o2, o3, o4]
          exact ⟨(i + 1, o ++ [b] ++ [l[i]], true), ⟨by simp only; omega, by simp; omega, by simpa using hg⟩, by simp only; omega, by simp only [List.map_append, List.length_append]; kernel_rfl⟩
        · simp only [putG, Bool.not_false, Bool.true_and, hb, decide_false, Bool.false_eq_true, if_false] at hg
          simp only [go_sem, T_1, T_3, T_4, T_42, T_76, hlt, hx, wi, hb, o1, o2, o3, o4]
          exact ⟨(i + 1, o ++ [l[i]], false), ⟨by simp only; omega, by simp; omega, by simpa using hg⟩, by simp only; omega, by simp only [List.map_append, List.length_append]; kernel_rfl⟩
    · rw [List.drop_eq_nil_of_le (by omega)] at hg
      cases dn with
      | true =>
        simp only [putG, if_true, List.append_nil] at hg
        simp only [go_sem, T_1, T_3, T_4, T_42, T_76, hlt, o1, o2]
        rw [← hg, finish_ms rfl (by simp)]
      | false =>
        simp only [putG, Bool.false_eq_true, if_false] at hg
        simp only [go_sem, T_1, T_3, T_4, T_42, T_76, hlt, o1, o2]
        rw [← hg, finish_ms rfl (by simp)]
        simp only [List.map_append, List.map_cons, List.map_nil]
        show _ = _
        kernel_rfl
end Go.Proofs.Ytfdemnefkfkghaa.R
/- What is reached: plain laws. (sortI of RSk, putB and hasB of RSl.) -/
namespace Go.Proofs.Ytfdemnefkfkghaa.R
open Go Go.Proofs
set_option linter.unusedSimpArgs false
set_option linter.unusedVariables false
def tgts (l : List S95) (b : Int) : List Int := targets ((find b l).getD noNode)
inductive RchS (l : List S95) (roots : List Int) : Int → Prop
  | root {b : Int} : b ∈ roots → RchS l roots b
  | step {b t : Int} : RchS l roots b → t ∈ tgts l b → RchS l roots t
/-- How far a search has come: what is still to be looked at, what was. -/
structure Srch (l : List S95) (roots todo out : List Int) : Prop where
  nodup : out.Nodup
  outR : ∀ b ∈ out, RchS l roots b
  todoR : ∀ b ∈ todo, RchS l roots b
  rootsIn : ∀ b ∈ roots, b ∈ out ∨ b ∈ todo
  tgtIn : ∀ b ∈ out, ∀ t ∈ tgts l b, t ∈ out ∨ t ∈ todo
theorem Srch.init {l : List S95} {roots : List Int} : Srch l roots roots [] :=
  ⟨List.nodup_nil, (by simp), fun b h => .root h, fun b h => .inr h, (by simp)⟩
theorem Srch.skip {l : List S95} {roots todo out : List Int} {b : Int} (h : Srch l roots (todo ++ [b]) out) (hb : b ∈ out) : Srch l roots todo out where
  nodup := h.nodup
  outR := h.outR
  todoR := fun x hx => h.todoR x (by simp [hx])
  rootsIn := fun x hx => by
    rcases h.rootsIn x hx with h1 | h1
    · exact .inl h1
    · rcases List.mem_append.1 h1 with h1 | h1
      · exact .inr h1
      · obtain rfl := List.mem_singleton.1 h1
        exact .inl hb
  tgtIn := fun x hx t ht => by
    rcases h.tgtIn x hx t ht with h1 | h1
    · exact .inl h1
    · rcases List.mem_append.1 h1 with h1 | h1
      · exact .inr h1
      · obtain rfl := List.mem_singleton.1 h1
        exact .inl hb
theorem Srch.visit {l : List S95} {roots todo out : List Int} {b : Int} (h : Srch l roots (todo ++ [b]) out) (hb : b ∉ out) : Srch l roots (todo ++ tgts l b) (out ++ [b]) where
  nodup := by
    rw [List.nodup_append]
    exact ⟨h.nodup, by simp, fun x hx y hy e => hb (by rw [List.mem_singleton] at hy; rw [← hy, ← e]; exact hx)⟩
  outR := fun x hx => by
    rcases List.mem_append.1 hx with hx | hx
    · exact h.outR x hx
    · rw [List.mem_singleton] at hx
      exact hx ▸ h.todoR b (by simp)
  todoR := fun x hx => by
    rcases List.mem_append.1 hx with hx | hx
    · exact h.todoR x (by simp [hx])
    · exact .step (h.todoR b (by simp)) hx
  rootsIn := fun x hx => by
    rcases h.rootsIn x hx with h1 | h1
    · exact .inl (by simp [h1])
    · rcases List.mem_append.1 h1 with h1 | h1
      · exact .inr (by simp [h1])
      · exact .inl (by rw [List.mem_append]; exact .inr h1)
  tgtIn := fun x hx t ht => by
    rcases List.mem_append.1 hx with hx | hx
    · rcases h.tgtIn x hx t ht with h1 | h1
      · exact .inl (by simp [h1])
      · rcases List.mem_append.1 h1 with h1 | h1
        · exact .inr (by simp [h1])
        · exact .inl (by rw [List.mem_append]; exact .inr h1)
    · obtain rfl := List.mem_singleton.1 hx
      exact .inr (by rw [List.mem_append]; exact .inr ht)
theorem Srch.done {l : List S95} {roots out : List Int} (h : Srch l roots [] out) (b : Int) : b ∈ out ↔ RchS l roots b := by
  refine ⟨h.outR b, fun hr => ?_⟩
  induction hr with
  | root hb =>
    rcases h.rootsIn _ hb with h1 | h1
    · exact h1
    · simp at h1
  | step _ ht ih =>
    rcases h.tgtIn _ ih _ ht with h1 | h1
    · exact h1
    · simp at h1
/-- Two rising lists of the same members are one. -/
theorem rises_ext : ∀ {p q : List Int}, risesI p = true → risesI q = true → (∀ b, b ∈ p ↔ b ∈ q) → p = q
  | [], [], _, _, _ => rfl
  | [], y :: q, _, _, h => absurd ((h y).2 (.head _)) (by simp)
  | x :: p, [], _, _, h => absurd ((h x).1 (.head _)) (by simp)
  | x :: p, y :: q, hp, hq, h => by
    have lp := risesI_lt hp
    have lq := risesI_lt hq
    have e : x = y := by
      rcases List.mem_cons.1 ((h x).1 (.head _)) with e | e
      · exact e
      · rcases List.mem_cons.1 ((h y).2 (.head _)) with e2 | e2
        · exact e2.symm
        · have := lq x e
          have := lp y e2
          omega
    subst e
    rw [rises_ext (risesI_tail hp) (risesI_tail hq) fun b => ?_]
    refine ⟨fun hb => ?_, fun hb => ?_⟩
    · rcases List.mem_cons.1 ((h b).1 (.tail _ hb)) with e | e
      · have := lp b hb
        omega
      · exact e
    · rcases List.mem_cons.1 ((h b).2 (.tail _ hb)) with e | e
      · have := lq b hb
        omega
      · exact e
theorem hasB_iff {b : Int} {l : List Int} : hasB b l = true ↔ b ∈ l := by simp [hasB]
theorem putG_mem {b x : Int} : ∀ {l : List Int}, x ∈ putG b false l ↔ x = b ∨ x ∈ l
  | [] => by simp [putG]
  | y :: r => by
    simp only [putG, Bool.not_false, Bool.true_and, decide_eq_true_eq]
    split
    · rw [putG_true]
      simp
    · rw [List.mem_cons, List.mem_cons, putG_mem (l := r)]
      exact ⟨fun h => h.elim (fun h => .inr (.inl h)) (fun h => h.elim .inl fun h => .inr (.inr h)), fun h => h.elim (fun h => .inr (.inl h)) fun h => h.elim .inl fun h => .inr (.inr h)⟩
theorem putB_mem {l : List Int} {b x : Int} : x ∈ putB l b ↔ x = b ∨ x ∈ l := by
  unfold putB
  split
  · rename_i h
    exact ⟨.inr, fun h2 => h2.elim (fun e => e ▸ hasB_iff.1 h) id⟩
  · exact putG_mem
theorem putG_rises {b : Int} : ∀ {l : List Int}, risesI l = true → b ∉ l → risesI (putG b false l) = true
  | [], _, _ => rfl
  | y :: r, h, hb => by
    simp only [putG, Bool.not_false, Bool.true_and, decide_eq_true_eq]
    split
    · rename_i hlt
      rw [putG_true]
      simp only [risesI, Bool.and_eq_true]
      exact ⟨ltI_iff.2 hlt, h⟩
    · rename_i hge
      have hne : b ≠ y := fun e => hb (e ▸ .head _)
      refine risesI_cons (putG_rises (risesI_tail h) fun hm => hb (.tail _ hm)) fun x hx => ?_
      rcases putG_mem.1 hx with e | e
      · omega
      · exact risesI_lt h x e
theorem putB_rises {l : List Int} {b : Int} (h : risesI l = true) : risesI (putB l b) = true := by
  unfold putB
  split
  · exact h
  · rename_i hb
    exact putG_rises h fun hm => hb (hasB_iff.2 hm)
theorem sortI_mem {l : List Int} {b : Int} : b ∈ sortI l ↔ b ∈ l := List.mem_mergeSort
theorem sortI_rises {l : List Int} (h : l.Nodup) : risesI (sortI l) = true := by
  have hp : (sortI l).Pairwise fun x y => decide (x ≤ y) = true := List.pairwise_mergeSort (fun a b c h1 h2 => by simp only [decide_eq_true_eq] at *; omega) (fun a b => by simp only [Bool.or_eq_true, decide_eq_true_eq]; omega) l
  have hn : (sortI l).Nodup := (List.mergeSort_perm l _).nodup_iff.2 h
  generalize sortI l = s at *
  clear h
  induction s with
  | nil => rfl
  | cons x r ih =>
    rw [List.pairwise_cons] at hp
    rw [List.nodup_cons] at hn
    refine risesI_cons (ih hp.2 hn.2) fun y hy => ?_
    have h1 := hp.1 y hy
    simp only [decide_eq_true_eq] at h1
    have : x ≠ y := fun e => hn.1 (e ▸ hy)
    omega
/-- The reached, whoever looks for them: a rising list of them is the one. -/
theorem reach_one {l : List S95} {roots out q : List Int} (h : Srch l roots [] out) (hq : risesI q = true) (hm : ∀ b, b ∈ q ↔ RchS l roots b) : sortI out = q :=
  rises_ext (sortI_rises h.nodup) hq fun b => by rw [sortI_mem, h.done, hm]
theorem nodup_len : ∀ {out q : List Int}, out.Nodup → (∀ x ∈ out, x ∈ q) → out.length ≤ q.length
  | [], _, _, _ => Nat.zero_le _
  | x :: r, q, h, hs => by
    have hx := hs x (.head _)
    have hn := List.nodup_cons.1 h
    have hr := nodup_len (out := r) (q := q.erase x) hn.2 fun y hy => (List.mem_erase_of_ne (fun (e : y = x) => hn.1 (by rw [← e]; exact hy))).2 (hs y (.tail _ hy))
    rw [List.length_erase_of_mem hx] at hr
    have := List.length_pos_of_mem hx
    rw [List.length_cons]
    omega
end Go.Proofs.Ytfdemnefkfkghaa.R
/- graph.Reach: what it needs. -/
namespace Go.Proofs.Ytfdemnefkfkghaa.R
open Go Go.Proofs
set_option linter.unusedSimpArgs false
set_option linter.unusedVariables false
set_option maxRecDepth 10000
set_option maxHeartbeats 4000000
/-- A list of numbers behind others, in an object that may hold more. -/
theorem app_fz {n i l : Nat} {rows new : List (List V)} {h : Heap} {tr : List Nat} (hat : h.at? i = some (.buf 1 rows false true)) (hl : l ≤ rows.length) (hb : l + new.length < 1000000000) (hne : new.length ≠ 0) :
    (appendR ⟨.int .u32, 1, 4, .int .u32 0⟩ n (.ms i 1 0 l none) new true).run h tr =
      if l + new.length ≤ rows.length then some ((.ms i 1 0 (l + new.length) none, [(i, some (.buf 1 (rows.take l ++ new ++ rows.drop (l + new.length)) false true))]), i :: tr)
      else some ((.ms n 1 0 (l + new.length) none, [(i, none), (n, some (.buf 1 (rows.take l ++ new) false true))]), i :: tr) := by
  unfold appendR
  simp only [hne, if_false, if_true, Rd.run, hat]
  rw [if_pos ⟨trivial, by omega, by omega, by omega⟩]
  unfold appendM
  simp only [Nat.zero_add, if_true, true_and, or_true, Bool.and_self]
  split <;> rfl
/-- The map 'seen'. -/
def seenE (l : List Int) : List (V × V) := l.map fun b => (.int .u32 b, .bool true)
theorem seen_find {b : Int} : ∀ {l : List Int}, findKey (.int .u32 b) (seenE l) = some (if b ∈ l then some (.bool true) else none)
  | [] => rfl
  | x :: r => by
    show (match eqCell (.int .u32 b) (.int .u32 x) with | some true => some (some (V.bool true)) | some false => findKey (.int .u32 b) (seenE r) | none => none) = _
    by_cases h : b = x
    · subst h
      have : eqCell (.int .u32 b) (.int .u32 b) = some true := by simp [eqCell]
      rw [this]
      simp
    · have : eqCell (.int .u32 b) (.int .u32 x) = some false := by simp [eqCell, h]
      rw [this, seen_find (l := r)]
      simp [h]
theorem seen_set {b : Int} : ∀ {l : List Int}, b ∉ l → setKey (.int .u32 b) (.bool true) (seenE l) = some (seenE (l ++ [b]))
  | [], _ => rfl
  | x :: r, h => by
    have hx : b ≠ x := fun e => h (e ▸ .head _)
    have : eqCell (.int .u32 b) (.int .u32 x) = some false := by simp [eqCell, hx]
    show (match eqCell (.int .u32 b) (.int .u32 x) with | some true => some ((V.int .u32 b, V.bool true) :: seenE r) | some false => (setKey (.int .u32 b) (.bool true) (seenE r)).map ((V.int .u32 x, V.bool true) :: ·) | none => none) = _
    rw [this, seen_set (l := r) fun hm => h (.tail _ hm)]
    rfl
end Go.Proofs.Ytfdemnefkfkghaa.R
/- Chapter 27's laws: how often blocks are named, the program's way. -/
namespace Go.Proofs.Ytfdemnefkfkghaa.R
open Go Go.Proofs
set_option linter.unusedSimpArgs false
set_option linter.unusedVariables false
set_option maxRecDepth 10000
set_option maxHeartbeats 4000000

def cell1 : Ob := .buf 1 [[.ptr 1 0 0]] false false
theorem call182_1 (k : Int) (ks : List Int) (vs : List Int) (ex ey : List (List V)) (f g : Bool) (hr : risesI ks = true) (hl : ks.length < 1000000000000) (hv : vs.length = ks.length) (n : Nat) (hn : 4 ≤ n) (o0 : Option Ob) (rest : Heap) : (callV (LX T fns) n (.clo 182 []) [.ptr 1 0 0, .int .u32 k]).run (o0 :: some (mobU 2 3 ks.length) :: some (kobU ks ex f) :: some (vobU vs ey g) :: rest) [] =
    some ((.tup [valU (gtI zU k ks vs), .bool (hasI k ks)], [(1, some (mobU 2 3 ks.length)), (2, some (kobU ks ex f)), (3, some (vobU vs ey g))]), [3, 2, 1]) := by
  have h := lim182 k ks vs ex ey f g hr hl hv
  simp only [mobU, kobU, vobU, valU] at h ⊢
  have hf : fns 182 = some fn182 := rfl
  unfold callV
  simp only [hf]
  unfold callR
  simp only [fn182, List.cons_append, List.nil_append, List.append_nil, frzArgs, frz, frzAll, frzG, frzGAll, ms2, msUp, List.tail]
  simp only [V.allIds, V.ids, List.append_nil, List.nil_append, collect, List.map_nil, List.contains_nil, Bool.false_eq_true, if_false, Rd.run, Heap.at?, Ob.ids, rowsIds, List.map_cons, List.cons_append, List.contains_cons, Nat.reduceBEq, Bool.or_self, Bool.or_false, Bool.false_or, Bool.or_true, Bool.true_or, if_true]
  unfold withR
  simp only [List.map_cons, List.map_nil, upd1, List.all_nil, List.all_cons, show 1 < n by omega, show 2 < n by omega, show 3 < n by omega, decide_true, Bool.and_self, if_true, V.reAll, V.re, idx, Nat.beq, cond_true, cond_false, Option.bind_some, Option.map_some, pullObs, Ob.re, reRows, Nat.reduceAdd, h, List.length_cons, List.length_nil, Nat.le_refl]
  unfold afterR
  simp only [V.re, V.reAll, pushObs, back, nth, Ob.re, reRows, Option.bind_some, Option.map_some, List.isEmpty_cons, Bool.false_and, Bool.false_eq_true, if_false, Rd.run, List.append_nil, Nat.reduceAdd]
theorem call183_new1 (k : Int) (c : Int) (ks : List Int) (vs : List Int) (ex ey : List (List V)) (f g : Bool) (hr : risesI ks = true) (hl : ks.length < 1000000000) (hv : vs.length = ks.length) (hb : hasI k ks = false) (n : Nat) (hn : 4 ≤ n) (o0 : Option Ob) (rest : Heap) :
    (callV (LX T fns) n (.clo 183 []) [.ptr 1 0 0, .int .u32 k, valU c]).run (o0 :: some (mobU 2 3 ks.length) :: some (kobU ks ex f) :: some (vobU vs ey g) :: rest) [] =
    some ((.bool true, [(1, some (mobU n (n + 1) (ks.length + 1))), (2, some (kobU ks ex true)), (3, some (vobU vs ey true)), (n, some (kobU (insAt (posI k ks) k ks) [] false)), (n + 1, some (vobU (insAt (posI k ks) c vs) [] false))]), [3, 2, 1]) := by
  have h := lim183_new k c ks vs ex ey f g hr hl hv hb
  simp only [mobU, kobU, vobU, valU, List.append_nil] at h ⊢
  have hf : fns 183 = some fn183 := rfl
  unfold callV
  simp only [hf]
  unfold callR
  simp only [fn183, List.cons_append, List.nil_append, List.append_nil, frzArgs, frz, frzAll, frzG, frzGAll, ms2, msUp, List.tail]
  simp only [V.allIds, V.ids, List.append_nil, List.nil_append, collect, List.map_nil, List.contains_nil, Bool.false_eq_true, if_false, Rd.run, Heap.at?, Ob.ids, rowsIds, List.map_cons, List.cons_append, List.contains_cons, Nat.reduceBEq, Bool.or_self, Bool.or_false, Bool.false_or, Bool.or_true, Bool.true_or, if_true]
  unfold withR
  simp only [List.map_cons, List.map_nil, upd1, List.all_nil, List.all_cons, show 1 < n by omega, show 2 < n by omega, show 3 < n by omega, decide_true, Bool.and_self, if_true, V.reAll, V.re, idx, Nat.beq, cond_true, cond_false, Option.bind_some, Option.map_some, pullObs, Ob.re, reRows, Nat.reduceAdd, h, List.length_cons, List.length_nil, Nat.le_refl]
  unfold afterR
  simp only [V.re, V.reAll, pushObs, back, nth, Ob.re, reRows, Option.bind_some, Option.map_some, List.isEmpty_cons, Bool.false_and, Bool.false_eq_true, if_false, Rd.run, List.append_nil, Nat.reduceAdd]
  simp only [List.length_cons, List.length_nil, Nat.zero_add, Nat.reduceAdd, Nat.reduceLT, Nat.reduceLeDiff, if_true, Option.map_some, Option.bind_some, Nat.reduceSub, Nat.sub_self, Nat.add_zero]
  show _ = _
  kernel_rfl
theorem call183_old1 (k : Int) (c : Int) (ks : List Int) (vs : List Int) (ex ey : List (List V)) (f g : Bool) (hr : risesI ks = true) (hl : ks.length < 1000000000) (hv : vs.length = ks.length) (hb : hasI k ks = true) (n : Nat) (hn : 4 ≤ n) (o0 : Option Ob) (rest : Heap) :
    (callV (LX T fns) n (.clo 183 []) [.ptr 1 0 0, .int .u32 k, valU c]).run (o0 :: some (mobU 2 3 ks.length) :: some (kobU ks ex f) :: some (vobU vs ey g) :: rest) [] =
    some ((.bool false, [(1, some (mobU 2 n ks.length)), (2, some (kobU ks ex f)), (3, some (vobU vs ey true)), (n, some (vobU (vs.set (posI k ks) c) [] false))]), [3, 2, 1]) := by
  have h := lim183_old k c ks vs ex ey f g hr hl hv hb
  simp only [mobU, kobU, vobU, valU, List.append_nil] at h ⊢
  have hf : fns 183 = some fn183 := rfl
  unfold callV
  simp only [hf]
  unfold callR
  simp only [fn183, List.cons_append, List.nil_append, List.append_nil, frzArgs, frz, frzAll, frzG, frzGAll, ms2, msUp, List.tail]
  simp only [V.allIds, V.ids, List.append_nil, List.nil_append, collect, List.map_nil, List.contains_nil, Bool.false_eq_true, if_false, Rd.run, Heap.at?, Ob.ids, rowsIds, List.map_cons, List.cons_append, List.contains_cons, Nat.reduceBEq, Bool.or_self, Bool.or_false, Bool.false_or, Bool.or_true, Bool.true_or, if_true]
  unfold withR
  simp only [List.map_cons, List.map_nil, upd1, List.all_nil, List.all_cons, show 1 < n by omega, show 2 < n by omega, show 3 < n by omega, decide_true, Bool.and_self, if_true, V.reAll, V.re, idx, Nat.beq, cond_true, cond_false, Option.bind_some, Option.map_some, pullObs, Ob.re, reRows, Nat.reduceAdd, h, List.length_cons, List.length_nil, Nat.le_refl]
  unfold afterR
  simp only [V.re, V.reAll, pushObs, back, nth, Ob.re, reRows, Option.bind_some, Option.map_some, List.isEmpty_cons, Bool.false_and, Bool.false_eq_true, if_false, Rd.run, List.append_nil, Nat.reduceAdd]
  simp only [List.length_cons, List.length_nil, Nat.zero_add, Nat.reduceAdd, Nat.reduceLT, Nat.reduceLeDiff, if_true, Option.map_some, Option.bind_some, Nat.reduceSub, Nat.sub_self, Nat.add_zero]
  show _ = _
  kernel_rfl

def capA (c n : Int) : Int := if 4294967295 < c + n then 4294967295 else c + n
def u32B (x : Int) : Prop := 0 ≤ x ∧ x ≤ 4294967295
theorem capA_b {c n : Int} (hc : u32B c) (hn : u32B n) : u32B (capA c n) := by
  unfold capA u32B at *
  split <;> omega
theorem wrap64_u {x : Int} (h0 : 0 ≤ x) (h1 : x < 1000000000000000000) : IntKind.u64.wrap x = x := by
  simp [IntKind.wrap, IntKind.signed, IntKind.bits]
  omega
theorem wrap32_u {x : Int} (h : u32B x) : IntKind.u32.wrap x = x := by
  unfold u32B at h
  simp [IntKind.wrap, IntKind.signed, IntKind.bits]
  omega
theorem capA_wrap {c n : Int} (hc : u32B c) (hn : u32B n) : IntKind.u32.wrap (if 4294967295 < IntKind.u64.wrap (IntKind.u64.wrap c + IntKind.u64.wrap n) then 4294967295 else IntKind.u64.wrap (IntKind.u64.wrap c + IntKind.u64.wrap n)) = capA c n := by
  have hb := capA_b hc hn
  unfold u32B at hc hn
  rw [wrap64_u (x := c) (by omega) (by omega), wrap64_u (x := n) (by omega) (by omega), wrap64_u (by omega) (by omega)]
  exact wrap32_u hb
theorem lim181_new (b m : Int) (ks vs : List Int) (f g : Bool) (hr : risesI ks = true) (hl : ks.length < 1000000000) (hv : vs.length = ks.length) (hm : u32B m) (hb : hasI b ks = false) : lim T fns 181 [.int .u32 b, .int .u32 m, .ptr 0 0 0] [cell1, mobU 2 3 ks.length, kobU ks [] f, vobU vs [] g] =
    some (.tup [], [some cell1, some (mobU 4 5 (ks.length + 1)), some (kobU ks [] true), some (vobU vs [] true), some (kobU (insAt (posI b ks) b ks) [] false), some (vobU (insAt (posI b ks) (capA 0 m) vs) [] false)]) := by
  refine fn_rule (fn := fn181) rfl rfl (by simp [fn181]) ?_
  unfold fn181
  simp only [Try.f181, Option.getD_some, argEnv, List.map_nil, List.length_nil]
  have hg : gtI zU b ks vs = 0 := by unfold gtI; rw [hb]; rfl
  have hc1 := fun (n : Nat) (hn : 4 ≤ n) (o0 : Option Ob) (rest : Heap) => call182_1 b ks vs [] [] f g hr (by omega) hv n hn o0 rest
  have hc2 := fun (n : Nat) (hn : 4 ≤ n) (o0 : Option Ob) (rest : Heap) => call183_new1 b (capA 0 m) ks vs [] [] f g hr hl hv hb n hn o0 rest
  have hw := capA_wrap (c := 0) (n := m) (by simp [u32B]) hm
  rw [hg, hb] at hc1
  simp only [cell1, mobU, kobU, vobU, valU, List.append_nil] at hc1 hc2 ⊢
  simp only [go_sem, T_42, T_130, T_239, hc1, hc2, extractR, hw]
  show _ = _
  kernel_rfl
theorem lim181_old (b m : Int) (ks vs : List Int) (f g : Bool) (hr : risesI ks = true) (hl : ks.length < 1000000000) (hv : vs.length = ks.length) (hm : u32B m) (hvb : ∀ x ∈ vs, u32B x) (hb : hasI b ks = true) : lim T fns 181 [.int .u32 b, .int .u32 m, .ptr 0 0 0] [cell1, mobU 2 3 ks.length, kobU ks [] f, vobU vs [] g] =
    some (.tup [], [some cell1, some (mobU 2 4 ks.length), some (kobU ks [] f), some (vobU vs [] true), some (vobU (vs.set (posI b ks) (capA (gtI zU b ks vs) m)) [] false)]) := by
  refine fn_rule (fn := fn181) rfl rfl (by simp [fn181]) ?_
  unfold fn181
  simp only [Try.f181, Option.getD_some, argEnv, List.map_nil, List.length_nil]
  have hgb : u32B (gtI zU b ks vs) := by
    unfold gtI
    rw [if_pos hb]
    have hp : posI b ks < vs.length := by rw [hv]; exact hasI_lt hb
    rw [List.getElem?_eq_getElem hp]
    exact hvb _ (List.getElem_mem hp)
  have hc1 := fun (n : Nat) (hn : 4 ≤ n) (o0 : Option Ob) (rest : Heap) => call182_1 b ks vs [] [] f g hr (by omega) hv n hn o0 rest
  have hw := capA_wrap hgb hm
  generalize gtI zU b ks vs = c at *
  have hc2 := fun (n : Nat) (hn : 4 ≤ n) (o0 : Option Ob) (rest : Heap) => call183_old1 b (capA c m) ks vs [] [] f g hr hl hv hb n hn o0 rest
  rw [hb] at hc1
  simp only [cell1, mobU, kobU, vobU, valU, List.append_nil] at hc1 hc2 ⊢
  simp only [go_sem, T_42, T_130, T_239, hc1, hc2, extractR, hw]
  show _ = _
  kernel_rfl
theorem call181_new (b m : Int) (ks vs : List Int) (f g : Bool) (hr : risesI ks = true) (hl : ks.length < 1000000000) (hv : vs.length = ks.length) (hm : u32B m) (hb : hasI b ks = false) (n : Nat) (hn : 4 ≤ n) (rest : Heap) :
    (callV (LX T fns) n (.clo 181 [.ptr 0 0 0]) [.int .u32 b, .int .u32 m]).run (some cell1 :: some (mobU 2 3 ks.length) :: some (kobU ks [] f) :: some (vobU vs [] g) :: rest) [] =
    some ((.tup [], [(0, some cell1), (1, some (mobU n (n + 1) (ks.length + 1))), (2, some (kobU ks [] true)), (3, some (vobU vs [] true)), (n, some (kobU (insAt (posI b ks) b ks) [] false)), (n + 1, some (vobU (insAt (posI b ks) (capA 0 m) vs) [] false))]), [3, 2, 1, 0]) := by
  have h := lim181_new b m ks vs f g hr hl hv hm hb
  simp only [cell1, mobU, kobU, vobU, valU, List.append_nil] at h ⊢
  have hf : fns 181 = some fn181 := rfl
  unfold callV
  simp only [hf]
  unfold callR
  simp only [fn181, List.cons_append, List.nil_append, List.append_nil, frzArgs, frz, frzAll, frzG, frzGAll, ms2, msUp, List.tail]
  simp only [V.allIds, V.ids, List.append_nil, List.nil_append, collect, List.map_nil, List.contains_nil, Bool.false_eq_true, if_false, Rd.run, Heap.at?, Ob.ids, rowsIds, List.map_cons, List.cons_append, List.contains_cons, Nat.reduceBEq, Bool.or_self, Bool.or_false, Bool.false_or, Bool.or_true, Bool.true_or, if_true]
  unfold withR
  simp only [List.map_cons, List.map_nil, upd1, List.all_nil, List.all_cons, show 0 < n by omega, show 1 < n by omega, show 2 < n by omega, show 3 < n by omega, decide_true, Bool.and_self, if_true, V.reAll, V.re, idx, Nat.beq, cond_true, cond_false, Option.bind_some, Option.map_some, pullObs, Ob.re, reRows, Nat.reduceAdd, h, List.length_cons, List.length_nil, Nat.le_refl]
  unfold afterR
  simp only [V.re, V.reAll, pushObs, back, nth, Ob.re, reRows, Option.bind_some, Option.map_some, List.isEmpty_cons, Bool.false_and, Bool.false_eq_true, if_false, Rd.run, List.append_nil, Nat.reduceAdd]
  simp only [List.length_cons, List.length_nil, Nat.zero_add, Nat.reduceAdd, Nat.reduceLT, Nat.reduceLeDiff, if_true, Option.map_some, Option.bind_some, Nat.reduceSub, Nat.sub_self, Nat.add_zero]
  show _ = _
  kernel_rfl
theorem call181_old (b m : Int) (ks vs : List Int) (f g : Bool) (hr : risesI ks = true) (hl : ks.length < 1000000000) (hv : vs.length = ks.length) (hm : u32B m) (hvb : ∀ x ∈ vs, u32B x) (hb : hasI b ks = true) (n : Nat) (hn : 4 ≤ n) (rest : Heap) :
    (callV (LX T fns) n (.clo 181 [.ptr 0 0 0]) [.int .u32 b, .int .u32 m]).run (some cell1 :: some (mobU 2 3 ks.length) :: some (kobU ks [] f) :: some (vobU vs [] g) :: rest) [] =
    some ((.tup [], [(0, some cell1), (1, some (mobU 2 n ks.length)), (2, some (kobU ks [] f)), (3, some (vobU vs [] true)), (n, some (vobU (vs.set (posI b ks) (capA (gtI zU b ks vs) m)) [] false))]), [3, 2, 1, 0]) := by
  have h := lim181_old b m ks vs f g hr hl hv hm hvb hb
  simp only [cell1, mobU, kobU, vobU, valU, List.append_nil] at h ⊢
  have hf : fns 181 = some fn181 := rfl
  unfold callV
  simp only [hf]
  unfold callR
  simp only [fn181, List.cons_append, List.nil_append, List.append_nil, frzArgs, frz, frzAll, frzG, frzGAll, ms2, msUp, List.tail]
  simp only [V.allIds, V.ids, List.append_nil, List.nil_append, collect, List.map_nil, List.contains_nil, Bool.false_eq_true, if_false, Rd.run, Heap.at?, Ob.ids, rowsIds, List.map_cons, List.cons_append, List.contains_cons, Nat.reduceBEq, Bool.or_self, Bool.or_false, Bool.false_or, Bool.or_true, Bool.true_or, if_true]
  unfold withR
  simp only [List.map_cons, List.map_nil, upd1, List.all_nil, List.all_cons, show 0 < n by omega, show 1 < n by omega, show 2 < n by omega, show 3 < n by omega, decide_true, Bool.and_self, if_true, V.reAll, V.re, idx, Nat.beq, cond_true, cond_false, Option.bind_some, Option.map_some, pullObs, Ob.re, reRows, Nat.reduceAdd, h, List.length_cons, List.length_nil, Nat.le_refl]
  unfold afterR
  simp only [V.re, V.reAll, pushObs, back, nth, Ob.re, reRows, Option.bind_some, Option.map_some, List.isEmpty_cons, Bool.false_and, Bool.false_eq_true, if_false, Rd.run, List.append_nil, Nat.reduceAdd]
  simp only [List.length_cons, List.length_nil, Nat.zero_add, Nat.reduceAdd, Nat.reduceLT, Nat.reduceLeDiff, if_true, Option.map_some, Option.bind_some, Nat.reduceSub, Nat.sub_self, Nat.add_zero]
  show _ = _
  kernel_rfl
end Go.Proofs.Ytfdemnefkfkghaa.R
