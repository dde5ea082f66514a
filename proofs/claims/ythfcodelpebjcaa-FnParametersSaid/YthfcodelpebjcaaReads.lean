/- How the laws' arguments read on the abstract heap. No condition. -/
import Derived.Test.YthfcodelpebjcaaA1
import Derived.Test.YthfcodelpebjcaaZabG6
namespace Go.Proofs.Ythfcodelpebjcaa
open Go.Ab

theorem readsS : ReadsT Try.prog 25 RS := ReadsT.slice Try.underlying25 (by kernel_rfl) (by decide) (ReadsT.int Try.underlying2)
theorem readsSS : ReadsT Try.prog 24 RSS := ReadsT.slice Try.underlying24 (by kernel_rfl) (by decide) readsS

end Go.Proofs.Ythfcodelpebjcaa
