/- One more of a range. No condition. -/
import Derived.Test.YtdmgomeogedjgaaGreatGAB
namespace Go.Proofs.YtdmgomeogedjgaaGreat
open Go.Ab

theorem range_push {α : Type} {k : Nat} {f : Nat → α} {x : α} (h : f k = x) : (List.range k).map f ++ [x] = (List.range (k + 1)).map f := by
  rw [List.range_succ, List.map_append]
  simp [h]

end Go.Proofs.YtdmgomeogedjgaaGreat
