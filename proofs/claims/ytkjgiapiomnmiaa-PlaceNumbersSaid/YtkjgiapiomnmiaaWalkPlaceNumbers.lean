/- The walk of PlaceNumbers: the walk for the answer true, at the arguments' cells. -/
import Derived.Test.YtkjgiapiomnmiaaKPlaceNumbers
import Derived.Test.YtkjgiapiomnmiaaPurePlaceNumbers
namespace Go.Proofs.Ytkjgiapiomnmiaa.PlaceNumbersWalk
set_option linter.unusedVariables false
open Go.RowKit Go.Proofs.YtkjgiapiomnmiaaW.PrintWords Go.Proofs.Ytkjgiapiomnmiaa.KPlaceNumbers Go.Proofs.Ytkjgiapiomnmiaa.PPlaceNumbers
theorem walk (W : World) (x0 : S23) (gx0 : g23 x0) (cs0 : Array Value) (h0 : k23.K W x0 cs0.toList) (x1 : Int) (gx1 : g28 x1) (x2 : Int) (gx2 : g3 x2) (x3 : Int) (gx3 : g32 x3) (x4 : Int) (gx4 : g33 x4) :
    Calls Try.prog 5 #[.agg cs0, .int .u64 x1, .int .i64 x2, .int .u32 x3, .int .u16 x4] W fun e W' => e = .returned (.bool true) ∧ Below W.heap.size W W' := by
  have hc := k23_open h0
  obtain ⟨l⟩ := cs0
  have hc' : l = _ := hc
  subst hc'
  have b1 : 0 ≤ x1 := by
    have h : (Lit.int .u64 x1).wf = true := gx1
    simp [Lit.wf, IntKind.min, IntKind.max, IntKind.signed, IntKind.bits] at h
    omega
  have b3 : 0 ≤ x3 ∧ x3 ≤ 4294967295 := by
    have h : (Lit.int .u32 x3).wf = true := gx3
    simp [Lit.wf, IntKind.min, IntKind.max, IntKind.signed, IntKind.bits] at h
    omega
  have b4 : 0 ≤ x4 ∧ x4 ≤ 65535 := by
    have h : (Lit.int .u16 x4).wf = true := gx4
    simp [Lit.wf, IntKind.min, IntKind.max, IntKind.signed, IntKind.bits] at h
    omega
  obtain ⟨k, h⟩ := PlaceNumbers_true x0.f0 x0.f1 x0.f2 x0.f3 x0.f4 x0.f5 x0.f6 x1 x2 x3 x4 b1 b3.1 b3.2 b4.1 b4.2
  exact marcotlaw16_PlaceNumbers.calls k x0.f0 x0.f1 x0.f2 x0.f3 x0.f4 x0.f5 x0.f6 x1 x2 x3 x4 true W h ⟨rfl⟩
end Go.Proofs.Ytkjgiapiomnmiaa.PlaceNumbersWalk
