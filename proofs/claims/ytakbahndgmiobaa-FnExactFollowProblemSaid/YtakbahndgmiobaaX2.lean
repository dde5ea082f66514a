/- Contracts of the reference's minors and of the least of them. No condition. -/
import Derived.Test.YtakbahndgmiobaaV2
import Derived.Test.YtakbahndgmiobaaX0
import Derived.Test.YtakbahndgmiobaaZabG9
namespace Go.Proofs.Ytakbahndgmiobaa
open Go.Ab








end Go.Proofs.Ytakbahndgmiobaa
