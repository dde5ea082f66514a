/- How the laws' problems read on the abstract heap. No condition. -/
import Derived.Test.YtakbahndgmiobaaReads
import Derived.Test.YtakbahndgmiobaaA2
namespace Go.Proofs.Ytakbahndgmiobaa
open Go.Ab

theorem readsP : ReadsT Try.prog 25 RProblem := ReadsT.struct Try.underlying25 (by kernel_rfl) (.cons (o' := 1) readsSS rfl (by kernel_rfl) rfl (.one readsS rfl (by kernel_rfl)))

end Go.Proofs.Ytakbahndgmiobaa
