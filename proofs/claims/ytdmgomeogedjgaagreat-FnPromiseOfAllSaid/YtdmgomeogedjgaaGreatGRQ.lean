/- How the laws' arguments read on the abstract heap. No condition. -/
import Derived.Test.YtdmgomeogedjgaaGreatGAB
import Derived.Test.YtdmgomeogedjgaaGreatZabG6
namespace Go.Proofs.YtdmgomeogedjgaaGreat
open Go.Ab

theorem readsS : ReadsT Tryz.prog 29 RS := ReadsT.slice Tryz.underlying29 (by kernel_rfl) (by decide) (ReadsT.int Tryz.underlying2)
theorem readsSS : ReadsT Tryz.prog 28 RSS := ReadsT.slice Tryz.underlying28 (by kernel_rfl) (by decide) readsS

end Go.Proofs.YtdmgomeogedjgaaGreat
/-! How the problems of the program read on the abstract heap. No condition. -/
namespace Go.Proofs.YtdmgomeogedjgaaGreat
open Go.Ab

theorem readsQ : ReadsT Tryz.prog 31 RProblem := ReadsT.struct Tryz.underlying31 (by kernel_rfl) (.cons (o' := 1) readsSS rfl (by kernel_rfl) rfl (.one readsS rfl (by kernel_rfl)))

end Go.Proofs.YtdmgomeogedjgaaGreat
