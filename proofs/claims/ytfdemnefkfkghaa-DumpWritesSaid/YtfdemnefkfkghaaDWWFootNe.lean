/- Words of the kit's print, for this proof: what it does not reach is left out (join.py of this session). -/
import Derived.Test.YtfdemnefkfkghaaDWWN
namespace Go.Proofs.YtfdemnefkfkghaaW.PrintWords
open Go.RowKit
namespace Kd
section
variable {α : Type} {d : Kd α} {W : World} {g n : Nat} {S ok : Nat → Prop} {A : Option Addr} {ad : Addr} {xs : List α}
end
end Kd
end Go.Proofs.YtfdemnefkfkghaaW.PrintWords
