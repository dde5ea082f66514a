/- How the laws' arguments read on the abstract heap. No condition. -/
import Derived.Test.YtdmgomeogedjgaaGreatGAB
import Derived.Test.YtdmgomeogedjgaaGreatZabG6
namespace Go.Proofs.YtdmgomeogedjgaaGreat
open Go.Ab

theorem readsS : ReadsT Tryz.prog 29 RS := ReadsT.slice Tryz.underlying29 (by kernel_rfl) (by decide) (ReadsT.int Tryz.underlying2)
theorem readsSS : ReadsT Tryz.prog 28 RSS := ReadsT.slice Tryz.underlying28 (by kernel_rfl) (by decide) readsS

end Go.Proofs.YtdmgomeogedjgaaGreat
