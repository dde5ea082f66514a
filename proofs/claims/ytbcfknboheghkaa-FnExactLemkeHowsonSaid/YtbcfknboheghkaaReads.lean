/- How the laws' arguments read on the abstract heap. No condition. -/
import Derived.Test.YtbcfknboheghkaaA1
import Derived.Test.YtbcfknboheghkaaZabG6
namespace Go.Proofs.Ytbcfknboheghkaa
open Go.Ab

theorem readsS : ReadsT Try.prog 38 RS := ReadsT.slice Try.underlying38 (by kernel_rfl) (by decide) (ReadsT.int Try.underlying2)
theorem readsSS : ReadsT Try.prog 22 RSS := ReadsT.slice Try.underlying22 (by kernel_rfl) (by decide) readsS

end Go.Proofs.Ytbcfknboheghkaa
