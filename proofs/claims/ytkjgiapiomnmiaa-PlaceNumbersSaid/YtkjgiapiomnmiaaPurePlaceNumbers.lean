/- The numbers of layer 16, out of the printed functions: where everything stands, plainly. -/
import Derived.Test.YtkjgiapiomnmiaaThinPlaceNumbers
namespace Go.Proofs.Ytkjgiapiomnmiaa.PPlaceNumbers
open Go.RowKit Go.Proofs.YtkjgiapiomnmiaaW.PrintWords

theorem wr {n : Int} (h0 : -1000000000000 ≤ n) (h1 : n ≤ 9000000000000000) : wrap64 n = n := by
  unfold wrap64
  omega

def Ok (a0 a1 a2 a3 a4 a5 a6 : Int) : Prop := 16 ≤ a0 ∧ a0 ≤ 4096 ∧ 1 ≤ a1 ∧ a1 ≤ 256 ∧ 4 ≤ a2 ∧ a2 ≤ 6 ∧ 2 ≤ a3 ∧ a3 ≤ 16 ∧ 2 ≤ a4 ∧ a4 ≤ 8 ∧ 1 ≤ a5 ∧ a5 ≤ 1024 ∧ 2 ≤ a6 ∧ a6 ≤ 4294967294
instance (a0 a1 a2 a3 a4 a5 a6 : Int) : Decidable (Ok a0 a1 a2 a3 a4 a5 a6) := by unfold Ok; infer_instance

theorem ite_c {p : Prop} [Decidable p] {α : Type} {x y z : α} (h1 : p → x = z) (h2 : ¬ p → y = z) : (if p then x else y) = z := by
  by_cases h : p
  · rw [if_pos h]; exact h1 h
  · rw [if_neg h]; exact h2 h

section
variable {a0 a1 a2 a3 a4 a5 a6 : Int}

theorem refMay (k : Nat) : marcotref16_May.f (k + 1) a0 a1 a2 a3 a4 a5 a6 = some (decide (Ok a0 a1 a2 a3 a4 a5 a6)) := by
  unfold marcotref16_May.f
  simp only [marcotref16_May.j0, if_true]
  generalize hr : decide (Ok a0 a1 a2 a3 a4 a5 a6) = r
  repeat' (refine ite_c (fun _ => ?_) (fun _ => ?_))
  all_goals rw [← hr]
  all_goals first
    | (refine congrArg some (Eq.symm (decide_eq_false ?_)); unfold Ok; (try simp only [decide_eq_true_eq] at *); omega)
    | (refine congrArg some (decide_eq_decide.2 ?_); unfold Ok; (try simp only [decide_eq_true_eq] at *); omega)

theorem placeIn (a b c : Int) : place_in.f a b c = some (decide (b ≤ a ∧ a ≤ c)) := by
  unfold place_in.f
  split
  · refine congrArg some (decide_eq_decide.2 ?_)
    omega
  · refine congrArg some (Eq.symm (decide_eq_false ?_))
    omega

theorem may : place_May.f a0 a1 a2 a3 a4 a5 a6 = some (decide (Ok a0 a1 a2 a3 a4 a5 a6)) := by
  unfold place_May.f
  simp only [placeIn, Option.bind_some, decide_eq_true_eq]
  generalize hr : decide (Ok a0 a1 a2 a3 a4 a5 a6) = r
  repeat' (refine ite_c (fun _ => ?_) (fun _ => ?_))
  all_goals rw [← hr]
  all_goals first
    | (refine congrArg some (Eq.symm (decide_eq_false ?_)); unfold Ok; omega)
    | (refine congrArg some (decide_eq_decide.2 ?_); unfold Ok; omega)

/-- How many blocks an area has. -/
def areaOf (a0 : Int) : Int := (12 * a0 + 2423) / 2024

theorem area (h : Ok a0 a1 a2 a3 a4 a5 a6) : place_Area.f a0 a1 a2 a3 a4 a5 a6 = some (areaOf a0) := by
  unfold place_Area.f
  rw [may, decide_eq_true h]
  simp only [Option.bind_some, if_true]
  have h' := h
  unfold Ok at h'
  rw [wr (n := 12 * a0) (by omega) (by omega), wr (n := 12 * a0 + 400) (by omega) (by omega), wr (n := 12 * a0 + 400 + 2024) (by omega) (by omega), wr (n := 12 * a0 + 400 + 2024 - 1) (by omega) (by omega),
    Int.tdiv_eq_ediv_of_nonneg (by omega), show 12 * a0 + 400 + 2024 - 1 = 12 * a0 + 2423 by omega, wr (by omega) (by omega)]
  rfl
theorem area_no (h : ¬ Ok a0 a1 a2 a3 a4 a5 a6) : place_Area.f a0 a1 a2 a3 a4 a5 a6 = some 0 := by
  unfold place_Area.f
  rw [may, decide_eq_false h]
  simp

theorem area_bounds (h : Ok a0 a1 a2 a3 a4 a5 a6) : 1 ≤ areaOf a0 ∧ areaOf a0 ≤ 26 ∧ areaOf a0 * 2024 ≥ 12 * a0 + 400 ∧ areaOf a0 * 2024 - 2024 < 12 * a0 + 400 := by
  unfold Ok at h
  unfold areaOf
  omega

theorem nodes (h : Ok a0 a1 a2 a3 a4 a5 a6) : place_nodes.f a0 a1 a2 a3 a4 a5 a6 = some (2 + a1 + 2 * areaOf a0) := by
  unfold place_nodes.f
  rw [area h]
  simp only [Option.bind_some]
  have hb := area_bounds h
  unfold Ok at h
  rw [wr (n := 2 + a1) (by omega) (by omega), wr (n := 2 * areaOf a0) (by omega) (by omega), wr (by omega) (by omega)]

theorem size (h : Ok a0 a1 a2 a3 a4 a5 a6) : place_Size.f a0 a1 a2 a3 a4 a5 a6 = some (2 + a1 + 2 * areaOf a0 + a0) := by
  unfold place_Size.f
  rw [may, decide_eq_true h, nodes h]
  simp only [Option.bind_some, if_true]
  have hb := area_bounds h
  unfold Ok at h
  rw [wr (by omega) (by omega)]
theorem size_no (h : ¬ Ok a0 a1 a2 a3 a4 a5 a6) : place_Size.f a0 a1 a2 a3 a4 a5 a6 = some 0 := by
  unfold place_Size.f
  rw [may, decide_eq_false h]
  simp
end

theorem awake : marcotlaw16_awake.f = some true := by
  have h : Ok 100 10 4 2 2 1 2 := by decide
  unfold marcotlaw16_awake.f
  rw [may, decide_eq_true h, area h, size h]
  decide

theorem super0 : place_Super.f 0 = some 0 := by decide +kernel
theorem super1 : place_Super.f 1 = some 1 := by decide +kernel
theorem log (i : Int) (h0 : 0 ≤ i) (h1 : i ≤ 256) : place_Log.f i = some (2 + i) := by
  unfold place_Log.f
  rw [placeIn, decide_eq_true ⟨h0, h1⟩]
  simp only [Option.bind_some, if_true]
  rw [wr (by omega) (by omega)]
section
variable {a0 a1 a2 a3 a4 a5 a6 : Int}
theorem metaAt (h : Ok a0 a1 a2 a3 a4 a5 a6) (e : Int) (he : 0 ≤ e) : place_Meta.f a0 a1 a2 a3 a4 a5 a6 e = some (2 + a1 + e % 2 * areaOf a0) := by
  unfold place_Meta.f
  rw [may, decide_eq_true h, area h]
  simp only [Option.bind_some, if_true]
  have hb := area_bounds h
  unfold Ok at h
  rw [Int.tmod_eq_emod_of_nonneg he]
  have h0 : e % 2 = 0 ∨ e % 2 = 1 := by omega
  rcases h0 with h0 | h0
  · rw [h0, wr (n := 0) (by omega) (by omega), wr (n := 0 * areaOf a0) (by omega) (by omega), wr (n := 2 + a1) (by omega) (by omega), wr (by omega) (by omega)]
  · rw [h0, wr (n := 1) (by omega) (by omega), wr (n := 1 * areaOf a0) (by omega) (by omega), wr (n := 2 + a1) (by omega) (by omega), wr (by omega) (by omega)]
theorem nodeAt (h : Ok a0 a1 a2 a3 a4 a5 a6) (b : Int) (h0 : 0 ≤ b) (h1 : b < a0) : place_Node.f a0 a1 a2 a3 a4 a5 a6 b = some (2 + a1 + 2 * areaOf a0 + b) := by
  unfold place_Node.f
  rw [may, decide_eq_true h, nodes h]
  simp only [Option.bind_some, if_true]
  have hb := area_bounds h
  unfold Ok at h
  rw [if_neg (by simp [IntKind.wrap, IntKind.bits, IntKind.signed]; omega), wr (n := b) (by omega) (by omega), wr (by omega) (by omega)]
end

theorem logNo (i : Int) (h : ¬ (0 ≤ i ∧ i ≤ 256)) : place_Log.f i = some (-1) := by
  unfold place_Log.f
  rw [placeIn, decide_eq_false h]
  simp
theorem superAt (e : Int) (he : 0 ≤ e) : place_Super.f e = some (e % 2) := by
  unfold place_Super.f
  rw [Int.tmod_eq_emod_of_nonneg he, wr (by omega) (by omega)]
theorem needAt (d : Int) (h0 : 0 ≤ d) (h1 : d ≤ 65535) : place_Need.f d = some (6 + 2 * d) := by
  unfold place_Need.f
  rw [wr (n := d) (by omega) (by omega), wr (n := 2 * d) (by omega) (by omega), wr (by omega) (by omega)]

section
variable {a0 a1 a2 a3 a4 a5 a6 : Int}
theorem metaNo (h : ¬ Ok a0 a1 a2 a3 a4 a5 a6) (e : Int) : place_Meta.f a0 a1 a2 a3 a4 a5 a6 e = some (-1) := by
  unfold place_Meta.f
  rw [may, decide_eq_false h]
  simp
theorem nodeNo (h : ¬ Ok a0 a1 a2 a3 a4 a5 a6 ) (b : Int) : place_Node.f a0 a1 a2 a3 a4 a5 a6 b = some (-1) := by
  unfold place_Node.f
  rw [may, decide_eq_false h]
  simp
theorem nodeFar (h : Ok a0 a1 a2 a3 a4 a5 a6) (b : Int) (h0 : 0 ≤ b) (h2 : b ≤ 4294967295) (h1 : ¬ b < a0) : place_Node.f a0 a1 a2 a3 a4 a5 a6 b = some (-1) := by
  unfold place_Node.f
  rw [may, decide_eq_true h]
  simp only [Option.bind_some, if_true]
  unfold Ok at h
  rw [if_pos (by simp [IntKind.wrap, IntKind.bits, IntKind.signed]; omega)]

theorem refAreaLoop (h : Ok a0 a1 a2 a3 a4 a5 a6) (d : Nat) : ∀ (k : Nat) (n : Int), 0 ≤ n → n ≤ areaOf a0 → areaOf a0 - n = d → d < k → marcotref16_Area.l0 k n a0 a1 a2 a3 a4 a5 a6 = some (areaOf a0) := by
  have hb := area_bounds h
  unfold Ok at h
  induction d with
  | zero =>
    intro k n h0 h1 hd hk
    obtain ⟨k, rfl⟩ : ∃ m, k = m + 1 := ⟨k - 1, by omega⟩
    simp only [marcotref16_Area.l0]
    have : n = areaOf a0 := by omega
    subst this
    rw [wr (n := areaOf a0 * 2024) (by omega) (by omega), wr (n := 12 * a0) (by omega) (by omega), wr (n := 12 * a0 + 400) (by omega) (by omega), if_neg (by omega)]
  | succ d ih =>
    intro k n h0 h1 hd hk
    obtain ⟨k, rfl⟩ : ∃ m, k = m + 1 := ⟨k - 1, by omega⟩
    simp only [marcotref16_Area.l0]
    rw [wr (n := n * 2024) (by omega) (by omega), wr (n := 12 * a0) (by omega) (by omega), wr (n := 12 * a0 + 400) (by omega) (by omega), if_pos (by unfold areaOf at *; omega), wr (n := n + 1) (by omega) (by omega)]
    exact ih k (n + 1) (by omega) (by omega) (by omega) (by omega)

theorem refArea (h : Ok a0 a1 a2 a3 a4 a5 a6) (k : Nat) (hk : 27 ≤ k) : marcotref16_Area.f k a0 a1 a2 a3 a4 a5 a6 = some (areaOf a0) := by
  obtain ⟨k, rfl⟩ : ∃ m, k = m + 1 := ⟨k - 1, by omega⟩
  have hb := area_bounds h
  unfold marcotref16_Area.f
  rw [refMay, decide_eq_true h]
  simp only [Option.bind_some, if_true]
  exact refAreaLoop h (areaOf a0).toNat _ 0 (by omega) (by omega) (by omega) (by omega)
theorem refAreaNo (h : ¬ Ok a0 a1 a2 a3 a4 a5 a6) (k : Nat) (hk : 27 ≤ k) : marcotref16_Area.f k a0 a1 a2 a3 a4 a5 a6 = some 0 := by
  obtain ⟨k, rfl⟩ : ∃ m, k = m + 1 := ⟨k - 1, by omega⟩
  unfold marcotref16_Area.f
  rw [refMay, decide_eq_false h]
  simp
theorem refSize (h : Ok a0 a1 a2 a3 a4 a5 a6) (k : Nat) (hk : 27 ≤ k) : marcotref16_Size.f k a0 a1 a2 a3 a4 a5 a6 = some (2 + a1 + 2 * areaOf a0 + a0) := by
  unfold marcotref16_Size.f
  rw [refArea h k hk]
  obtain ⟨k, rfl⟩ : ∃ m, k = m + 1 := ⟨k - 1, by omega⟩
  have hb := area_bounds h
  rw [refMay, decide_eq_true h]
  simp only [Option.bind_some, if_true]
  unfold Ok at h
  rw [wr (n := 2 + a1) (by omega) (by omega), wr (n := 2 * areaOf a0) (by omega) (by omega), wr (n := 2 + a1 + 2 * areaOf a0) (by omega) (by omega), wr (by omega) (by omega)]
theorem refSizeNo (h : ¬ Ok a0 a1 a2 a3 a4 a5 a6) (k : Nat) (hk : 27 ≤ k) : marcotref16_Size.f k a0 a1 a2 a3 a4 a5 a6 = some 0 := by
  unfold marcotref16_Size.f
  obtain ⟨k, rfl⟩ : ∃ m, k = m + 1 := ⟨k - 1, by omega⟩
  rw [refMay, decide_eq_false h]
  simp
theorem refMeta (h : Ok a0 a1 a2 a3 a4 a5 a6) (k : Nat) (hk : 27 ≤ k) (e : Int) (he : 0 ≤ e) : marcotref16_Meta.f k a0 a1 a2 a3 a4 a5 a6 e = some (2 + a1 + e % 2 * areaOf a0) := by
  unfold marcotref16_Meta.f
  rw [refArea h k hk]
  obtain ⟨k, rfl⟩ : ∃ m, k = m + 1 := ⟨k - 1, by omega⟩
  have hb := area_bounds h
  rw [refMay, decide_eq_true h, Int.tmod_eq_emod_of_nonneg he]
  simp only [Option.bind_some, if_true]
  unfold Ok at h
  have h0 : e % 2 = 0 ∨ e % 2 = 1 := by omega
  rcases h0 with h0 | h0
  · rw [if_pos h0, h0, wr (by omega) (by omega)]
    congr 1
    omega
  · rw [if_neg (by omega), h0, wr (n := 2 + a1) (by omega) (by omega), wr (by omega) (by omega)]
    congr 1
    omega
theorem refMetaNo (h : ¬ Ok a0 a1 a2 a3 a4 a5 a6) (k : Nat) (hk : 27 ≤ k) (e : Int) : marcotref16_Meta.f k a0 a1 a2 a3 a4 a5 a6 e = some (-1) := by
  unfold marcotref16_Meta.f
  obtain ⟨k, rfl⟩ : ∃ m, k = m + 1 := ⟨k - 1, by omega⟩
  rw [refMay, decide_eq_false h]
  simp
theorem refNode (h : Ok a0 a1 a2 a3 a4 a5 a6) (k : Nat) (hk : 27 ≤ k) (b : Int) (h0 : 0 ≤ b) (h1 : b < a0) : marcotref16_Node.f k a0 a1 a2 a3 a4 a5 a6 b = some (2 + a1 + 2 * areaOf a0 + b) := by
  unfold marcotref16_Node.f
  rw [refSize h k hk]
  obtain ⟨k, rfl⟩ : ∃ m, k = m + 1 := ⟨k - 1, by omega⟩
  have hb := area_bounds h
  rw [refMay, decide_eq_true h]
  simp only [Option.bind_some, if_true]
  unfold Ok at h
  rw [wr (n := b) (by omega) (by omega), if_neg (by omega), wr (n := 2 + a1 + 2 * areaOf a0 + a0 - a0) (by omega) (by omega), wr (by omega) (by omega)]
  congr 1
  omega
theorem refNodeFar (h : Ok a0 a1 a2 a3 a4 a5 a6) (k : Nat) (hk : 27 ≤ k) (b : Int) (h0 : 0 ≤ b) (h2 : b ≤ 4294967295) (h1 : ¬ b < a0) : marcotref16_Node.f k a0 a1 a2 a3 a4 a5 a6 b = some (-1) := by
  unfold marcotref16_Node.f
  obtain ⟨k, rfl⟩ : ∃ m, k = m + 1 := ⟨k - 1, by omega⟩
  rw [refMay, decide_eq_true h]
  simp only [Option.bind_some, if_true]
  rw [wr (n := b) (by omega) (by omega), if_pos (by omega)]
theorem refNodeNo (h : ¬ Ok a0 a1 a2 a3 a4 a5 a6) (k : Nat) (hk : 27 ≤ k) (b : Int) : marcotref16_Node.f k a0 a1 a2 a3 a4 a5 a6 b = some (-1) := by
  unfold marcotref16_Node.f
  obtain ⟨k, rfl⟩ : ∃ m, k = m + 1 := ⟨k - 1, by omega⟩
  rw [refMay, decide_eq_false h]
  simp

theorem PlaceNumbers_true (a0 a1 a2 a3 a4 a5 a6 e i b d : Int) (he : 0 ≤ e) (hb0 : 0 ≤ b) (hb1 : b ≤ 4294967295) (hd0 : 0 ≤ d) (hd1 : d ≤ 65535) : ∃ k, marcotlaw16_PlaceNumbers.f k a0 a1 a2 a3 a4 a5 a6 e i b d = some true := by
  refine ⟨40, ?_⟩
  have hm : ∃ v, place_Meta.f a0 a1 a2 a3 a4 a5 a6 e = some v ∧ marcotref16_Meta.f 36 a0 a1 a2 a3 a4 a5 a6 e = some v := by
    by_cases h : Ok a0 a1 a2 a3 a4 a5 a6
    · exact ⟨_, metaAt h e he, refMeta h _ (by omega) e he⟩
    · exact ⟨_, metaNo h e, refMetaNo h _ (by omega) e⟩
  have hn : ∃ v, place_Node.f a0 a1 a2 a3 a4 a5 a6 b = some v ∧ marcotref16_Node.f 36 a0 a1 a2 a3 a4 a5 a6 b = some v := by
    by_cases h : Ok a0 a1 a2 a3 a4 a5 a6
    · by_cases hlt : b < a0
      · exact ⟨_, nodeAt h b hb0 hlt, refNode h _ (by omega) b hb0 hlt⟩
      · exact ⟨_, nodeFar h b hb0 hb1 hlt, refNodeFar h _ (by omega) b hb0 hb1 hlt⟩
    · exact ⟨_, nodeNo h b, refNodeNo h _ (by omega) b⟩
  have ha : ∃ v, place_Area.f a0 a1 a2 a3 a4 a5 a6 = some v ∧ marcotref16_Area.f 40 a0 a1 a2 a3 a4 a5 a6 = some v := by
    by_cases h : Ok a0 a1 a2 a3 a4 a5 a6
    · exact ⟨_, area h, refArea h _ (by omega)⟩
    · exact ⟨_, area_no h, refAreaNo h _ (by omega)⟩
  have hs : ∃ v, place_Size.f a0 a1 a2 a3 a4 a5 a6 = some v ∧ marcotref16_Size.f 40 a0 a1 a2 a3 a4 a5 a6 = some v := by
    by_cases h : Ok a0 a1 a2 a3 a4 a5 a6
    · exact ⟨_, size h, refSize h _ (by omega)⟩
    · exact ⟨_, size_no h, refSizeNo h _ (by omega)⟩
  obtain ⟨vm, hm1, hm2⟩ := hm
  obtain ⟨vn, hn1, hn2⟩ := hn
  obtain ⟨va, ha1, ha2⟩ := ha
  obtain ⟨vs, hs1, hs2⟩ := hs
  unfold marcotlaw16_PlaceNumbers.f
  rw [may, refMay, ha1, ha2, hs1, hs2]
  simp only [Option.bind_some, bne_self_eq_false, Bool.false_eq_true, if_false, if_true]
  have e3 : ∀ l : Int, place_Log.f i = some l → marcotlaw16_PlaceNumbers.j2 38 e i b d l a0 a1 a2 a3 a4 a5 a6 = some true := by
    intro l hl
    have e4 : marcotlaw16_PlaceNumbers.j3 37 e i b d l (e % 2) a0 a1 a2 a3 a4 a5 a6 = some true := by
      simp only [marcotlaw16_PlaceNumbers.j3]
      rw [superAt e he, hl, hm1, hm2, hn1, hn2, needAt d hd0 hd1, awake]
      simp only [Option.bind_some, if_true]
      rw [wr (n := d) (by omega) (by omega), wr (n := 6 + d) (by omega) (by omega), wr (n := 6 + d + d) (by omega) (by omega), if_pos (by omega)]
    simp only [marcotlaw16_PlaceNumbers.j2]
    rw [Int.tmod_eq_emod_of_nonneg he]
    have h0 : e % 2 = 0 ∨ e % 2 = 1 := by omega
    rcases h0 with h0 | h0
    · rw [if_neg (by omega)]
      rw [h0] at e4
      exact e4
    · rw [if_pos h0]
      rw [h0] at e4
      exact e4
  simp only [marcotlaw16_PlaceNumbers.j0, Bool.false_eq_true, if_false]
  by_cases h : 0 ≤ i
  · rw [if_pos h]
    simp only [marcotlaw16_PlaceNumbers.j1, decide_eq_true_eq]
    by_cases h2 : i ≤ 256
    · rw [if_pos h2, wr (by omega) (by omega)]
      exact e3 _ (log i h h2)
    · rw [if_neg h2]
      exact e3 _ (logNo i (by omega))
  · rw [if_neg h]
    simp only [marcotlaw16_PlaceNumbers.j1, Bool.false_eq_true, if_false]
    exact e3 _ (logNo i (by omega))
end

end Go.Proofs.Ytkjgiapiomnmiaa.PPlaceNumbers
