/- How the laws' fraction reads on the abstract heap. No condition. -/
import Derived.Test.YtakbahndgmiobaaReads
import Derived.Test.YtakbahndgmiobaaZabG5
namespace Go.Proofs.Ytakbahndgmiobaa
open Go.Ab

theorem readsF : ReadsT Try.prog 27 RFrac := ReadsT.struct Try.underlying27 (by kernel_rfl) (.cons (o' := 1) (ReadsT.int Try.underlying2) rfl (by kernel_rfl) rfl (.one (ReadsT.int Try.underlying2) rfl (by kernel_rfl)))

end Go.Proofs.Ytakbahndgmiobaa
