/- How the laws' games read on the abstract heap. No condition. -/
import Derived.Test.YtbcfknboheghkaaReads
import Derived.Test.YtbcfknboheghkaaAG
namespace Go.Proofs.Ytbcfknboheghkaa
open Go.Ab

theorem readsA : ReadsT Try.prog 24 RGame := ReadsT.struct Try.underlying24 (by kernel_rfl) (.cons (o' := 1) readsSS rfl (by kernel_rfl) rfl (.one readsSS rfl (by kernel_rfl)))

end Go.Proofs.Ytbcfknboheghkaa
