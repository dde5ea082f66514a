/- How the laws' arguments read on the abstract heap. No condition. -/
import Derived.Test.YtmhbbkidedjefaaGreatA1
import Derived.Test.YtmhbbkidedjefaaGreatZabG6
namespace Go.Proofs.YtmhbbkidedjefaaGreat
open Go.Ab

theorem readsS : ReadsT Tryz.prog 23 RS := ReadsT.slice Tryz.underlying23 (by kernel_rfl) (by decide) (ReadsT.int Tryz.underlying2)
theorem readsSS : ReadsT Tryz.prog 22 RSS := ReadsT.slice Tryz.underlying22 (by kernel_rfl) (by decide) readsS

end Go.Proofs.YtmhbbkidedjefaaGreat
