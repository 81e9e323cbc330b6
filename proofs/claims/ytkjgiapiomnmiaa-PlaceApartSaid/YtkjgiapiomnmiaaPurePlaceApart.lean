/- The numbers of layer 16, out of the printed functions: where everything stands, plainly. -/
import Derived.Test.YtkjgiapiomnmiaaPPlaceApartx
namespace Go.Proofs.Ytkjgiapiomnmiaa.PPlaceApart
open Go.RowKit Go.Proofs.YtkjgiapiomnmiaaW.PrintWords

theorem wr {n : Int} (h0 : -1000000000000 ≤ n) (h1 : n ≤ 9000000000000000) : wrap64 n = n := by
  unfold wrap64
  omega

def Ok (a0 a1 a2 a3 a4 a5 a6 : Int) : Prop := 16 ≤ a0 ∧ a0 ≤ 4096 ∧ 1 ≤ a1 ∧ a1 ≤ 256 ∧ 4 ≤ a2 ∧ a2 ≤ 6 ∧ 2 ≤ a3 ∧ a3 ≤ 16 ∧ 2 ≤ a4 ∧ a4 ≤ 8 ∧ 1 ≤ a5 ∧ a5 ≤ 1024 ∧ 2 ≤ a6 ∧ a6 ≤ 4294967294
instance (a0 a1 a2 a3 a4 a5 a6 : Int) : Decidable (Ok a0 a1 a2 a3 a4 a5 a6) := by unfold Ok; infer_instance

theorem ite_c {p : Prop} [Decidable p] {α : Type} {x y z : α} (h1 : p → x = z) (h2 : ¬ p → y = z) : (if p then x else y) = z := by
  by_cases h : p
  · rw [if_pos h]; exact h1 h
  · rw [if_neg h]; exact h2 h

section
variable {a0 a1 a2 a3 a4 a5 a6 : Int}

theorem refMay (k : Nat) : marcotref16_May.f (k + 1) a0 a1 a2 a3 a4 a5 a6 = some (decide (Ok a0 a1 a2 a3 a4 a5 a6)) := by
  unfold marcotref16_May.f
  simp only [marcotref16_May.j0, if_true]
  generalize hr : decide (Ok a0 a1 a2 a3 a4 a5 a6) = r
  repeat' (refine ite_c (fun _ => ?_) (fun _ => ?_))
  all_goals rw [← hr]
  all_goals first
    | (refine congrArg some (Eq.symm (decide_eq_false ?_)); unfold Ok; (try simp only [decide_eq_true_eq] at *); omega)
    | (refine congrArg some (decide_eq_decide.2 ?_); unfold Ok; (try simp only [decide_eq_true_eq] at *); omega)

theorem placeIn (a b c : Int) : place_in.f a b c = some (decide (b ≤ a ∧ a ≤ c)) := by
  unfold place_in.f
  split
  · refine congrArg some (decide_eq_decide.2 ?_)
    omega
  · refine congrArg some (Eq.symm (decide_eq_false ?_))
    omega

theorem may : place_May.f a0 a1 a2 a3 a4 a5 a6 = some (decide (Ok a0 a1 a2 a3 a4 a5 a6)) := by
  unfold place_May.f
  simp only [placeIn, Option.bind_some, decide_eq_true_eq]
  generalize hr : decide (Ok a0 a1 a2 a3 a4 a5 a6) = r
  repeat' (refine ite_c (fun _ => ?_) (fun _ => ?_))
  all_goals rw [← hr]
  all_goals first
    | (refine congrArg some (Eq.symm (decide_eq_false ?_)); unfold Ok; omega)
    | (refine congrArg some (decide_eq_decide.2 ?_); unfold Ok; omega)

/-- How many blocks an area has. -/
def areaOf (a0 : Int) : Int := (12 * a0 + 2423) / 2024

theorem area (h : Ok a0 a1 a2 a3 a4 a5 a6) : place_Area.f a0 a1 a2 a3 a4 a5 a6 = some (areaOf a0) := by
  unfold place_Area.f
  rw [may, decide_eq_true h]
  simp only [Option.bind_some, if_true]
  have h' := h
  unfold Ok at h'
  rw [wr (n := 12 * a0) (by omega) (by omega), wr (n := 12 * a0 + 400) (by omega) (by omega), wr (n := 12 * a0 + 400 + 2024) (by omega) (by omega), wr (n := 12 * a0 + 400 + 2024 - 1) (by omega) (by omega),
    Int.tdiv_eq_ediv_of_nonneg (by omega), show 12 * a0 + 400 + 2024 - 1 = 12 * a0 + 2423 by omega, wr (by omega) (by omega)]
  rfl
theorem area_no (h : ¬ Ok a0 a1 a2 a3 a4 a5 a6) : place_Area.f a0 a1 a2 a3 a4 a5 a6 = some 0 := by
  unfold place_Area.f
  rw [may, decide_eq_false h]
  simp

theorem area_bounds (h : Ok a0 a1 a2 a3 a4 a5 a6) : 1 ≤ areaOf a0 ∧ areaOf a0 ≤ 26 ∧ areaOf a0 * 2024 ≥ 12 * a0 + 400 ∧ areaOf a0 * 2024 - 2024 < 12 * a0 + 400 := by
  unfold Ok at h
  unfold areaOf
  omega

theorem nodes (h : Ok a0 a1 a2 a3 a4 a5 a6) : place_nodes.f a0 a1 a2 a3 a4 a5 a6 = some (2 + a1 + 2 * areaOf a0) := by
  unfold place_nodes.f
  rw [area h]
  simp only [Option.bind_some]
  have hb := area_bounds h
  unfold Ok at h
  rw [wr (n := 2 + a1) (by omega) (by omega), wr (n := 2 * areaOf a0) (by omega) (by omega), wr (by omega) (by omega)]

theorem size (h : Ok a0 a1 a2 a3 a4 a5 a6) : place_Size.f a0 a1 a2 a3 a4 a5 a6 = some (2 + a1 + 2 * areaOf a0 + a0) := by
  unfold place_Size.f
  rw [may, decide_eq_true h, nodes h]
  simp only [Option.bind_some, if_true]
  have hb := area_bounds h
  unfold Ok at h
  rw [wr (by omega) (by omega)]
theorem size_no (h : ¬ Ok a0 a1 a2 a3 a4 a5 a6) : place_Size.f a0 a1 a2 a3 a4 a5 a6 = some 0 := by
  unfold place_Size.f
  rw [may, decide_eq_false h]
  simp
end

theorem awake : marcotlaw16_awake.f = some true := by
  have h : Ok 100 10 4 2 2 1 2 := by decide
  unfold marcotlaw16_awake.f
  rw [may, decide_eq_true h, area h, size h]
  decide

theorem super0 : place_Super.f 0 = some 0 := by decide +kernel
theorem super1 : place_Super.f 1 = some 1 := by decide +kernel
theorem log (i : Int) (h0 : 0 ≤ i) (h1 : i ≤ 256) : place_Log.f i = some (2 + i) := by
  unfold place_Log.f
  rw [placeIn, decide_eq_true ⟨h0, h1⟩]
  simp only [Option.bind_some, if_true]
  rw [wr (by omega) (by omega)]
section
variable {a0 a1 a2 a3 a4 a5 a6 : Int}
theorem metaAt (h : Ok a0 a1 a2 a3 a4 a5 a6) (e : Int) (he : 0 ≤ e) : place_Meta.f a0 a1 a2 a3 a4 a5 a6 e = some (2 + a1 + e % 2 * areaOf a0) := by
  unfold place_Meta.f
  rw [may, decide_eq_true h, area h]
  simp only [Option.bind_some, if_true]
  have hb := area_bounds h
  unfold Ok at h
  rw [Int.tmod_eq_emod_of_nonneg he]
  have h0 : e % 2 = 0 ∨ e % 2 = 1 := by omega
  rcases h0 with h0 | h0
  · rw [h0, wr (n := 0) (by omega) (by omega), wr (n := 0 * areaOf a0) (by omega) (by omega), wr (n := 2 + a1) (by omega) (by omega), wr (by omega) (by omega)]
  · rw [h0, wr (n := 1) (by omega) (by omega), wr (n := 1 * areaOf a0) (by omega) (by omega), wr (n := 2 + a1) (by omega) (by omega), wr (by omega) (by omega)]
theorem nodeAt (h : Ok a0 a1 a2 a3 a4 a5 a6) (b : Int) (h0 : 0 ≤ b) (h1 : b < a0) : place_Node.f a0 a1 a2 a3 a4 a5 a6 b = some (2 + a1 + 2 * areaOf a0 + b) := by
  unfold place_Node.f
  rw [may, decide_eq_true h, nodes h]
  simp only [Option.bind_some, if_true]
  have hb := area_bounds h
  unfold Ok at h
  rw [if_neg (by simp [IntKind.wrap, IntKind.bits, IntKind.signed]; omega), wr (n := b) (by omega) (by omega), wr (by omega) (by omega)]
end

theorem PlaceApart_true (a0 a1 a2 a3 a4 a5 a6 : Int) : ∃ k, marcotlaw16_PlaceApart.f k a0 a1 a2 a3 a4 a5 a6 = some true := by
  refine ⟨3, ?_⟩
  unfold marcotlaw16_PlaceApart.f
  rw [refMay]
  by_cases h : Ok a0 a1 a2 a3 a4 a5 a6
  · have hb := area_bounds h
    have h' := h
    unfold Ok at h'
    rw [decide_eq_true h, area h, super0, super1, log 0 (by omega) (by omega)]
    simp only [Option.bind_some, if_true]
    rw [if_pos (by omega), decide_eq_false (show ¬ areaOf a0 < 1 by omega)]
    simp only [marcotlaw16_PlaceApart.j0, marcotlaw16_PlaceApart.j1]
    rw [if_neg (by simp), wr (n := a1 - 1) (by omega) (by omega), log (a1 - 1) (by omega) (by omega), metaAt h 0 (by omega), metaAt h 1 (by omega), nodeAt h 0 (by omega) (by omega)]
    simp only [Option.bind_some]
    rw [wr (n := 2 + (a1 - 1) + 1) (by omega) (by omega), if_pos (by omega), wr (n := 2 + a1 + 0 % 2 * areaOf a0 + areaOf a0) (by omega) (by omega), if_pos (by omega), wr (n := 2 + a1 + 1 % 2 * areaOf a0 + areaOf a0) (by omega) (by omega),
      if_neg (by simp only [bne_iff_ne]; omega), wr (n := a0 - 1) (by omega) (by omega), show (a0 - 1) % 4294967296 = a0 - 1 by omega, nodeAt h (a0 - 1) (by omega) (by omega), size h]
    simp only [Option.bind_some]
    rw [wr (n := 2 + a1 + 2 * areaOf a0 + (a0 - 1) + 1) (by omega) (by omega), if_pos (by omega), wr (n := 2 + a1 + 2 * areaOf a0 + 0 + a0) (by omega) (by omega), wr (n := 2 + a1 + 2 * areaOf a0 + 0 + a0 - 1) (by omega) (by omega), if_pos (by omega), awake]
    rfl
  · rw [decide_eq_false h, size_no h, awake]
    simp

end Go.Proofs.Ytkjgiapiomnmiaa.PPlaceApart
