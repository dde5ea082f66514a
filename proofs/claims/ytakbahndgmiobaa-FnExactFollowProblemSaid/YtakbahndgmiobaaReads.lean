/- How the laws' arguments read on the abstract heap. No condition. -/
import Derived.Test.YtakbahndgmiobaaA1
import Derived.Test.YtakbahndgmiobaaZabG6
namespace Go.Proofs.Ytakbahndgmiobaa
open Go.Ab

theorem readsS : ReadsT Try.prog 23 RS := ReadsT.slice Try.underlying23 (by kernel_rfl) (by decide) (ReadsT.int Try.underlying2)
theorem readsSS : ReadsT Try.prog 22 RSS := ReadsT.slice Try.underlying22 (by kernel_rfl) (by decide) readsS

end Go.Proofs.Ytakbahndgmiobaa
