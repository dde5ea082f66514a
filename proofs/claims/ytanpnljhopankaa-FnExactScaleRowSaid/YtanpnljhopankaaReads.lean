/- How this seat's arguments read on the abstract heap. No condition. -/
import Derived.Test.YtanpnljhopankaaNewA
import Derived.Test.YtanpnljhopankaaZabArg
namespace Go.Proofs.Ytanpnljhopankaa
open Go.Ab

theorem reads23 : ReadsT Try.prog 23 RS := ReadsT.slice Try.underlying23 (by kernel_rfl) (by decide) (ReadsT.int Try.underlying2)
theorem reads22 : ReadsT Try.prog 22 RSS := ReadsT.slice Try.underlying22 (by kernel_rfl) (by decide) reads23
theorem reads32 : ReadsT Try.prog 32 RProblem := ReadsT.struct Try.underlying32 (by kernel_rfl) (.cons (o' := 1) reads22 rfl (by kernel_rfl) rfl (.one reads23 rfl (by kernel_rfl)))
theorem reads34 : ReadsT Try.prog 34 RDesk := ReadsT.struct Try.underlying34 (by kernel_rfl) (.cons (o' := 2) reads32 rfl (by kernel_rfl) rfl (.one (ReadsT.int Try.underlying2) rfl (by kernel_rfl)))

end Go.Proofs.Ytanpnljhopankaa
