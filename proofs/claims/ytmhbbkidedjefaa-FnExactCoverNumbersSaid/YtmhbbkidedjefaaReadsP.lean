/- How the laws' problems read on the abstract heap. No condition. -/
import Derived.Test.YtmhbbkidedjefaaReads
import Derived.Test.YtmhbbkidedjefaaA2
namespace Go.Proofs.Ytmhbbkidedjefaa
open Go.Ab

theorem readsP : ReadsT Try.prog 25 RProblem := ReadsT.struct Try.underlying25 (by kernel_rfl) (.cons (o' := 1) readsSS rfl (by kernel_rfl) rfl (.one readsS rfl (by kernel_rfl)))

end Go.Proofs.Ytmhbbkidedjefaa
