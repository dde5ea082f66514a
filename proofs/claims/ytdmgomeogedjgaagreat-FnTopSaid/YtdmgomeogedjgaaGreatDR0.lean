/- Draws: sources, numbers, matrices. No condition. -/
import Derived.Test.YtdmgomeogedjgaaGreatGAB
import Derived.Test.YtdmgomeogedjgaaGreatZabSrc
import Derived.Test.YtdmgomeogedjgaaGreatZabG8
import Derived.Test.YtdmgomeogedjgaaGreatZabG9
namespace Go.Proofs.YtdmgomeogedjgaaGreat
open Go.Ab



abbrev RBytes : Rd (List Int) := Rd.slice Rd.u8

section
variable {H0 H : Heap} {L : List (Atom H0.next)} {Q : Post} {b i : Nat} {vc : Value} {code : List Int}




/-- Rows of so many numbers, bounded. -/
def Small (n m : Nat) (xs : List (List Int)) : Prop := ∀ r ∈ xs, r.length = n ∧ ∀ x ∈ r, x.natAbs ≤ m



end


end Go.Proofs.YtdmgomeogedjgaaGreat
