/- How the laws' programs read on the abstract heap. No condition. -/
import Derived.Test.YtioleipoomgmhaaReads
import Derived.Test.YtioleipoomgmhaaA3
namespace Go.Proofs.Ytioleipoomgmhaa
open Go.Ab

theorem readsG : ReadsT Try.prog 39 RPrg := ReadsT.struct Try.underlying39 (by kernel_rfl)
  (.cons (o' := 1) readsSS rfl (by kernel_rfl) rfl (.cons (o' := 2) readsS rfl (by kernel_rfl) rfl (.cons (o' := 3) readsSS rfl (by kernel_rfl) rfl (.one readsS rfl (by kernel_rfl)))))

end Go.Proofs.Ytioleipoomgmhaa
