/- Contracts of the program's IsMatrix, IsProblem and isSet. No condition. -/
import Derived.Test.YtioleipoomgmhaaB1
import Derived.Test.YtioleipoomgmhaaA2
namespace Go.Proofs.Ytioleipoomgmhaa
open Go.Ab



/-- A matrix: square, of 1 to 5 rows, numbers of at most 20. -/
def isMat (m : List (List Int)) : Bool := (inR 1 5 m.length && isSq m.length m) && m.all (allUp 20)



/-- A problem. -/
def isProb (p : Prob) : Bool := (isMat p.1 && decide (p.2.length = p.1.length)) && allUp 100 p.2


theorem isProb_len {p : Prob} (h : isProb p = true) : p.2.length ≤ 5 ∧ p.2.length = p.1.length := by
  simp only [isProb, isMat, inR, Bool.and_eq_true, decide_eq_true_eq] at h
  omega

end Go.Proofs.Ytioleipoomgmhaa
