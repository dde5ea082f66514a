/- How much a problem's marks take. No condition. -/
import Derived.Test.YtakbahndgmiobaaA2
namespace Go.Proofs.Ytakbahndgmiobaa
open Go.Ab

theorem wProblem_le (p : Prob) : szProblem p ≤ wProblem p := by
  have := szSS_le p.1
  simp only [szp, szS_len]
  omega

end Go.Proofs.Ytakbahndgmiobaa
