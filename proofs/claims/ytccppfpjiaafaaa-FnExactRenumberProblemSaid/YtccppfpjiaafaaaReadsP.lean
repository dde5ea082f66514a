/- How the laws' problems read on the abstract heap. No condition. -/
import Derived.Test.YtccppfpjiaafaaaReads
import Derived.Test.YtccppfpjiaafaaaA2
namespace Go.Proofs.Ytccppfpjiaafaaa
open Go.Ab

theorem readsP : ReadsT Try.prog 33 RProblem := ReadsT.struct Try.underlying33 (by kernel_rfl) (.cons (o' := 1) readsSS rfl (by kernel_rfl) rfl (.one readsS rfl (by kernel_rfl)))

end Go.Proofs.Ytccppfpjiaafaaa
