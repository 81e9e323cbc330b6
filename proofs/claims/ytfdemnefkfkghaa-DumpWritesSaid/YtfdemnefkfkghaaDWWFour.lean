/- Words of the kit's print, for this proof: what it does not reach is left out (join.py of this session). -/
import Derived.Test.YtfdemnefkfkghaaDWWTab
namespace Go.Proofs.YtfdemnefkfkghaaW.PrintLast
section
variable {P : Program} {ops : Array Oper} {Q : Exit → Act → World → Prop} {md : Region.Mode} {S : World → Prop} {ds : List Nat} {T : Bool × List (List Nat × List Nat)}
end
end Go.Proofs.YtfdemnefkfkghaaW.PrintLast
