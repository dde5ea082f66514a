/- How the laws' programs read on the abstract heap. No condition. -/
import Derived.Test.YtmhbbkidedjefaaGreatReads
import Derived.Test.YtmhbbkidedjefaaGreatA3
namespace Go.Proofs.YtmhbbkidedjefaaGreat
open Go.Ab

theorem readsG : ReadsT Tryz.prog 25 RPrg := ReadsT.struct Tryz.underlying25 (by kernel_rfl)
  (.cons (o' := 1) readsSS rfl (by kernel_rfl) rfl (.cons (o' := 2) readsS rfl (by kernel_rfl) rfl (.cons (o' := 3) readsSS rfl (by kernel_rfl) rfl (.one readsS rfl (by kernel_rfl)))))

end Go.Proofs.YtmhbbkidedjefaaGreat
