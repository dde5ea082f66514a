/- How the laws' fraction reads on the abstract heap. No condition. -/
import Derived.Test.YtdbdmlfnggbdiaaReads
import Derived.Test.YtdbdmlfnggbdiaaZabG5
namespace Go.Proofs.Ytdbdmlfnggbdiaa
open Go.Ab

theorem readsF : ReadsT Try.prog 57 RFrac := ReadsT.struct Try.underlying57 (by kernel_rfl) (.cons (o' := 1) (ReadsT.int Try.underlying2) rfl (by kernel_rfl) rfl (.one (ReadsT.int Try.underlying2) rfl (by kernel_rfl)))

end Go.Proofs.Ytdbdmlfnggbdiaa
