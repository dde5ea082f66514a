/- How the laws' programs read on the abstract heap. No condition. -/
import Derived.Test.YtdbdmlfnggbdiaaReads
import Derived.Test.YtdbdmlfnggbdiaaA3
namespace Go.Proofs.Ytdbdmlfnggbdiaa
open Go.Ab

theorem readsG : ReadsT Try.prog 34 RPrg := ReadsT.struct Try.underlying34 (by kernel_rfl)
  (.cons (o' := 1) readsSS rfl (by kernel_rfl) rfl (.cons (o' := 2) readsS rfl (by kernel_rfl) rfl (.cons (o' := 3) readsSS rfl (by kernel_rfl) rfl (.one readsS rfl (by kernel_rfl)))))

end Go.Proofs.Ytdbdmlfnggbdiaa
