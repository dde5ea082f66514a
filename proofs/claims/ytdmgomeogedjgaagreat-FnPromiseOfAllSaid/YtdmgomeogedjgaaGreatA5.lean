/- The laws' helpers for lists of fractions: comparing, weighing, copying. No condition. -/
import Derived.Test.YtdmgomeogedjgaaGreatGAB
namespace Go.Proofs.YtdmgomeogedjgaaGreat
open Go.Ab








def fillTo (x : List Frac) (i : Nat) : List Frac := (List.range x.length).map fun j => if j < i then x.getD j (0, 0) else (0, 0)

end Go.Proofs.YtdmgomeogedjgaaGreat
