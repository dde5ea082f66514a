/- How much a problem's marks take. No condition. -/
import Derived.Test.YtmhbbkidedjefaaA2
namespace Go.Proofs.Ytmhbbkidedjefaa
open Go.Ab

theorem wProblem_le (p : Prob) : szProblem p ≤ wProblem p := by
  have := szSS_le p.1
  simp only [szp, szS_len]
  omega

end Go.Proofs.Ytmhbbkidedjefaa
