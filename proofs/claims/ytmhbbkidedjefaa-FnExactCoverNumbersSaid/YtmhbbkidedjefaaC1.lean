/- Contracts of slices.Grow and slices.Concat, rows. No condition. -/
import Derived.Test.YtmhbbkidedjefaaA1
import Derived.Test.YtmhbbkidedjefaaZabG5
namespace Go.Proofs.Ytmhbbkidedjefaa
open Go.Ab




end Go.Proofs.Ytmhbbkidedjefaa
