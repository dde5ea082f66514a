/- Contracts of the program's minors and of the test by them. No condition. -/
import Derived.Test.YtakbahndgmiobaaDT1
import Derived.Test.YtakbahndgmiobaaV1
import Derived.Test.YtakbahndgmiobaaG1
import Derived.Test.YtakbahndgmiobaaX0
import Derived.Test.YtakbahndgmiobaaZabG9
namespace Go.Proofs.Ytakbahndgmiobaa
open Go.Ab







theorem minorsL_len (n : Nat) (m : List (List Int)) : (minorsL n m).length = 2 ^ n := by simp [minorsL]



end Go.Proofs.Ytakbahndgmiobaa
