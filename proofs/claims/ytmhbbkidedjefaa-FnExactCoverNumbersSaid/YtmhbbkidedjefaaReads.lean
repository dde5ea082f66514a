/- How the laws' arguments read on the abstract heap. No condition. -/
import Derived.Test.YtmhbbkidedjefaaA1
import Derived.Test.YtmhbbkidedjefaaZabG6
namespace Go.Proofs.Ytmhbbkidedjefaa
open Go.Ab

theorem readsS : ReadsT Try.prog 23 RS := ReadsT.slice Try.underlying23 (by kernel_rfl) (by decide) (ReadsT.int Try.underlying2)
theorem readsSS : ReadsT Try.prog 22 RSS := ReadsT.slice Try.underlying22 (by kernel_rfl) (by decide) readsS

end Go.Proofs.Ytmhbbkidedjefaa
