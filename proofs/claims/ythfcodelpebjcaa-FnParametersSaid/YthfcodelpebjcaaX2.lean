/- Contracts of the reference's minors and of the least of them. No condition. -/
import Derived.Test.YthfcodelpebjcaaV2
import Derived.Test.YthfcodelpebjcaaX0
import Derived.Test.YthfcodelpebjcaaZabG9
namespace Go.Proofs.Ythfcodelpebjcaa
open Go.Ab








end Go.Proofs.Ythfcodelpebjcaa
