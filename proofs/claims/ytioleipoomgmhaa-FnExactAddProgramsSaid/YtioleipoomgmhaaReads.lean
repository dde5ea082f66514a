/- How the laws' arguments read on the abstract heap. No condition. -/
import Derived.Test.YtioleipoomgmhaaA1
import Derived.Test.YtioleipoomgmhaaZabG6
namespace Go.Proofs.Ytioleipoomgmhaa
open Go.Ab

theorem readsS : ReadsT Try.prog 26 RS := ReadsT.slice Try.underlying26 (by kernel_rfl) (by decide) (ReadsT.int Try.underlying2)
theorem readsSS : ReadsT Try.prog 22 RSS := ReadsT.slice Try.underlying22 (by kernel_rfl) (by decide) readsS

end Go.Proofs.Ytioleipoomgmhaa
