/- The law HealRight, for every argument. -/
import Derived.Test.YtfdemnefkfkghaaR33v
namespace Go.Proofs.Ytfdemnefkfkghaa.R
open Go Go.Proofs
theorem law4 (x0 : (List S95)) (gx0 : g22 x0) : ∃ R d h, acall T fns R d 4 [.fz (x0.map k95.enc)] [] = some (.bool true, h) := by
  obtain ⟨R, d, h⟩ := lim_acall (lim4 x0 (wf_of gx0))
  exact ⟨R, d, _, h⟩
end Go.Proofs.Ytfdemnefkfkghaa.R
