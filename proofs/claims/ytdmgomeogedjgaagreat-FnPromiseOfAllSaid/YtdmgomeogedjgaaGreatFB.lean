/- The next breakpoint of a way, the program's and the reference's. No condition. -/
import Derived.Test.YtdmgomeogedjgaaGreatGVV
import Derived.Test.YtdmgomeogedjgaaGreatFCM
import Derived.Test.YtdmgomeogedjgaaGreatGAB
import Derived.Test.YtdmgomeogedjgaaGreatGSR
import Derived.Test.YtdmgomeogedjgaaGreatZabG9
import Derived.Test.YtdmgomeogedjgaaGreatZabOne
namespace Go.Proofs.YtdmgomeogedjgaaGreat
open Go.Ab



/-- One fraction is less than another. -/
def fLt (x y : Frac) : Bool := decide (x.1 * y.2 < y.1 * x.2)

/-- Where a number that falls becomes 0. -/
def canF (a b : List Int) (i : Nat) : Frac := frac (a.getD i 0) (-(b.getD i 0))
def canOk (a b : List Int) (before : Frac) (i : Nat) : Bool := decide (b.getD i 0 < 0) && fLt before (canF a b i)

/-- The next breakpoint among the first ones, and which numbers become 0 there. -/
def bkTo (a b : List Int) (before : Frac) : Nat → Frac × List Int
  | 0 => ((0, 1), [])
  | i + 1 =>
    if canOk a b before i = true then
      (if (bkTo a b before i).2 = [] ∨ fLt (canF a b i) (bkTo a b before i).1 = true then (canF a b i, [(i : Int)])
      else if canF a b i = (bkTo a b before i).1 then ((bkTo a b before i).1, (bkTo a b before i).2 ++ [(i : Int)]) else bkTo a b before i)
    else bkTo a b before i

/-- A fraction in lowest terms that is not too large. -/
def Low (t : Frac) : Prop := (1 ≤ t.2 ∧ t.2 ≤ 768000000) ∧ t.1.natAbs ≤ 768000000 ∧ Int.gcd t.1 t.2 = 1

end Go.Proofs.YtdmgomeogedjgaaGreat
