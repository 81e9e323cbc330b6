/- The walk of PlaceApart: the printed walk at the arguments' cells. -/
import Derived.Test.YtkjgiapiomnmiaaKPlaceApart
import Derived.Test.YtkjgiapiomnmiaaPurePlaceApart
namespace Go.Proofs.Ytkjgiapiomnmiaa.PlaceApartWalk
set_option linter.unusedVariables false
open Go.RowKit Go.Proofs.YtkjgiapiomnmiaaW.PrintWords Go.Proofs.Ytkjgiapiomnmiaa.KPlaceApart Go.Proofs.Ytkjgiapiomnmiaa.PPlaceApart
theorem walk (W : World) (x0 : S23) (g0 : g23 x0) (cs0 : Array Value) (h0 : k23.K W x0 cs0.toList) :
    Calls Try.prog 4 #[.agg cs0] W fun e W' => e = .returned (.bool true) ∧ Below W.heap.size W W' := by
  have hc := k23_open h0
  obtain ⟨l⟩ := cs0
  have hc' : l = _ := hc
  subst hc'
  obtain ⟨k, h⟩ := PlaceApart_true x0.f0 x0.f1 x0.f2 x0.f3 x0.f4 x0.f5 x0.f6
  exact marcotlaw16_PlaceApart.calls k x0.f0 x0.f1 x0.f2 x0.f3 x0.f4 x0.f5 x0.f6 true W h
end Go.Proofs.Ytkjgiapiomnmiaa.PlaceApartWalk
