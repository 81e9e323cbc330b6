/- The numbers of layer 16, out of the printed functions: where everything stands, plainly. -/
import Derived.Test.YtkjgiapiomnmiaaPPlaceRoomx
namespace Go.Proofs.Ytkjgiapiomnmiaa.PPlaceRoom
open Go.RowKit Go.Proofs.YtkjgiapiomnmiaaW.PrintWords

theorem wr {n : Int} (h0 : -1000000000000 ≤ n) (h1 : n ≤ 9000000000000000) : wrap64 n = n := by
  unfold wrap64
  omega

def Ok (a0 a1 a2 a3 a4 a5 a6 : Int) : Prop := 16 ≤ a0 ∧ a0 ≤ 4096 ∧ 1 ≤ a1 ∧ a1 ≤ 256 ∧ 4 ≤ a2 ∧ a2 ≤ 6 ∧ 2 ≤ a3 ∧ a3 ≤ 16 ∧ 2 ≤ a4 ∧ a4 ≤ 8 ∧ 1 ≤ a5 ∧ a5 ≤ 1024 ∧ 2 ≤ a6 ∧ a6 ≤ 4294967294
instance (a0 a1 a2 a3 a4 a5 a6 : Int) : Decidable (Ok a0 a1 a2 a3 a4 a5 a6) := by unfold Ok; infer_instance

theorem ite_c {p : Prop} [Decidable p] {α : Type} {x y z : α} (h1 : p → x = z) (h2 : ¬ p → y = z) : (if p then x else y) = z := by
  by_cases h : p
  · rw [if_pos h]; exact h1 h
  · rw [if_neg h]; exact h2 h

section
variable {a0 a1 a2 a3 a4 a5 a6 : Int}

theorem refMay (k : Nat) : marcotref16_May.f (k + 1) a0 a1 a2 a3 a4 a5 a6 = some (decide (Ok a0 a1 a2 a3 a4 a5 a6)) := by
  unfold marcotref16_May.f
  simp only [marcotref16_May.j0, if_true]
  generalize hr : decide (Ok a0 a1 a2 a3 a4 a5 a6) = r
  repeat' (refine ite_c (fun _ => ?_) (fun _ => ?_))
  all_goals rw [← hr]
  all_goals first
    | (refine congrArg some (Eq.symm (decide_eq_false ?_)); unfold Ok; (try simp only [decide_eq_true_eq] at *); omega)
    | (refine congrArg some (decide_eq_decide.2 ?_); unfold Ok; (try simp only [decide_eq_true_eq] at *); omega)

theorem placeIn (a b c : Int) : place_in.f a b c = some (decide (b ≤ a ∧ a ≤ c)) := by
  unfold place_in.f
  split
  · refine congrArg some (decide_eq_decide.2 ?_)
    omega
  · refine congrArg some (Eq.symm (decide_eq_false ?_))
    omega

theorem may : place_May.f a0 a1 a2 a3 a4 a5 a6 = some (decide (Ok a0 a1 a2 a3 a4 a5 a6)) := by
  unfold place_May.f
  simp only [placeIn, Option.bind_some, decide_eq_true_eq]
  generalize hr : decide (Ok a0 a1 a2 a3 a4 a5 a6) = r
  repeat' (refine ite_c (fun _ => ?_) (fun _ => ?_))
  all_goals rw [← hr]
  all_goals first
    | (refine congrArg some (Eq.symm (decide_eq_false ?_)); unfold Ok; omega)
    | (refine congrArg some (decide_eq_decide.2 ?_); unfold Ok; omega)

/-- How many blocks an area has. -/
def areaOf (a0 : Int) : Int := (12 * a0 + 2423) / 2024

theorem area (h : Ok a0 a1 a2 a3 a4 a5 a6) : place_Area.f a0 a1 a2 a3 a4 a5 a6 = some (areaOf a0) := by
  unfold place_Area.f
  rw [may, decide_eq_true h]
  simp only [Option.bind_some, if_true]
  have h' := h
  unfold Ok at h'
  rw [wr (n := 12 * a0) (by omega) (by omega), wr (n := 12 * a0 + 400) (by omega) (by omega), wr (n := 12 * a0 + 400 + 2024) (by omega) (by omega), wr (n := 12 * a0 + 400 + 2024 - 1) (by omega) (by omega),
    Int.tdiv_eq_ediv_of_nonneg (by omega), show 12 * a0 + 400 + 2024 - 1 = 12 * a0 + 2423 by omega, wr (by omega) (by omega)]
  rfl
theorem area_no (h : ¬ Ok a0 a1 a2 a3 a4 a5 a6) : place_Area.f a0 a1 a2 a3 a4 a5 a6 = some 0 := by
  unfold place_Area.f
  rw [may, decide_eq_false h]
  simp

theorem area_bounds (h : Ok a0 a1 a2 a3 a4 a5 a6) : 1 ≤ areaOf a0 ∧ areaOf a0 ≤ 26 ∧ areaOf a0 * 2024 ≥ 12 * a0 + 400 ∧ areaOf a0 * 2024 - 2024 < 12 * a0 + 400 := by
  unfold Ok at h
  unfold areaOf
  omega

theorem nodes (h : Ok a0 a1 a2 a3 a4 a5 a6) : place_nodes.f a0 a1 a2 a3 a4 a5 a6 = some (2 + a1 + 2 * areaOf a0) := by
  unfold place_nodes.f
  rw [area h]
  simp only [Option.bind_some]
  have hb := area_bounds h
  unfold Ok at h
  rw [wr (n := 2 + a1) (by omega) (by omega), wr (n := 2 * areaOf a0) (by omega) (by omega), wr (by omega) (by omega)]

theorem size (h : Ok a0 a1 a2 a3 a4 a5 a6) : place_Size.f a0 a1 a2 a3 a4 a5 a6 = some (2 + a1 + 2 * areaOf a0 + a0) := by
  unfold place_Size.f
  rw [may, decide_eq_true h, nodes h]
  simp only [Option.bind_some, if_true]
  have hb := area_bounds h
  unfold Ok at h
  rw [wr (by omega) (by omega)]
theorem size_no (h : ¬ Ok a0 a1 a2 a3 a4 a5 a6) : place_Size.f a0 a1 a2 a3 a4 a5 a6 = some 0 := by
  unfold place_Size.f
  rw [may, decide_eq_false h]
  simp
end

theorem awake : marcotlaw16_awake.f = some true := by
  have h : Ok 100 10 4 2 2 1 2 := by decide
  unfold marcotlaw16_awake.f
  rw [may, decide_eq_true h, area h, size h]
  decide

theorem PlaceRoom_true (a0 a1 a2 a3 a4 a5 a6 : Int) : ∃ k, marcotlaw16_PlaceRoom.f k a0 a1 a2 a3 a4 a5 a6 = some true := by
  refine ⟨1, ?_⟩
  unfold marcotlaw16_PlaceRoom.f
  rw [refMay]
  by_cases h : Ok a0 a1 a2 a3 a4 a5 a6
  · rw [decide_eq_true h, area h, awake]
    have hb := area_bounds h
    simp only [Option.bind_some, if_true]
    have h' := h
    unfold Ok at h'
    rw [wr (n := areaOf a0 * 2024) (by omega) (by omega), wr (n := 12 * a0) (by omega) (by omega), wr (n := 12 * a0 + 400) (by omega) (by omega), wr (n := areaOf a0 * 2024 - 2024) (by omega) (by omega), if_pos (by omega), if_pos (by omega)]
  · rw [decide_eq_false h, area_no h, awake]
    simp

end Go.Proofs.Ytkjgiapiomnmiaa.PPlaceRoom
