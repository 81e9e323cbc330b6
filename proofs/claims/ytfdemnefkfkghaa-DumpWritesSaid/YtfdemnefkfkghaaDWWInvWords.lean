/- Words of the kit's print, for this proof: what it does not reach is left out (join.py of this session). -/
import Derived.Test.YtfdemnefkfkghaaDWWInv
import Derived.Test.YtfdemnefkfkghaaDWWFootNe
namespace Go.Proofs.YtfdemnefkfkghaaW.PrintWords
open Go.RowKit
end Go.Proofs.YtfdemnefkfkghaaW.PrintWords
namespace Go.Proofs.YtfdemnefkfkghaaW.PrintLast
section
variable {ops : Array Oper} {a : Act} {o og : Oper} {g : Nat} {t : Tmp} {u : Bool}
end
end Go.Proofs.YtfdemnefkfkghaaW.PrintLast
