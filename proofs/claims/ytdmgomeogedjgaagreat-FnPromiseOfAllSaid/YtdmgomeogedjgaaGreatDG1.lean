/- The contracts of DegreeAt, the program's and the reference's. No condition. -/
import Derived.Test.YtdmgomeogedjgaaGreatCV1
import Derived.Test.YtdmgomeogedjgaaGreatGXX
import Derived.Test.YtdmgomeogedjgaaGreatD7
import Derived.Test.YtdmgomeogedjgaaGreatZabG9
namespace Go.Proofs.YtdmgomeogedjgaaGreat
open Go.Ab



def covN (n : Nat) (p : Prob) : List Nat := (List.range (2 ^ n)).filter (covB n p)
theorem covL_map (n : Nat) (p : Prob) : covL n p = (covN n p).map fun (s : Nat) => (s : Int) := rfl
theorem covN_len (n : Nat) (p : Prob) : (covN n p).length ≤ 2 ^ n := by
  have := List.length_filter_le (covB n p) (List.range (2 ^ n))
  simpa [covN] using this

/-- One of its point's numbers is 0. -/
def zeroB (n : Nat) (p : Prob) (s : Nat) : Bool := (pointL n (colL n p.1 s) p.2).contains 0

def degF (n : Nat) (p : Prob) (s : Nat) : Int := sgI (minorL n p.1 s)
def degTo (n : Nat) (p : Prob) (i : Nat) : Int := (((covN n p).take i).map (degF n p)).sum

def degRes (p : Prob) : Int × Int := if isProb p = true then (if (covN p.2.length p).any (zeroB p.2.length p) = true then (0, 5) else (degTo p.2.length p (covN p.2.length p).length, 0)) else (0, 1)

end Go.Proofs.YtdmgomeogedjgaaGreat
