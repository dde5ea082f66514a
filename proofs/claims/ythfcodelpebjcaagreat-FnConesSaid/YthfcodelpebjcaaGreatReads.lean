/- How the laws' arguments read on the abstract heap. No condition. -/
import Derived.Test.YthfcodelpebjcaaGreatGAB
import Derived.Test.YthfcodelpebjcaaGreatZabG6
namespace Go.Proofs.YthfcodelpebjcaaGreat
open Go.Ab

theorem readsS : ReadsT Tryz.prog 25 RS := ReadsT.slice Tryz.underlying25 (by kernel_rfl) (by decide) (ReadsT.int Tryz.underlying2)
theorem readsSS : ReadsT Tryz.prog 24 RSS := ReadsT.slice Tryz.underlying24 (by kernel_rfl) (by decide) readsS

end Go.Proofs.YthfcodelpebjcaaGreat
