/- Contracts of the program's minors and of the test by them. No condition. -/
import Derived.Test.YthfcodelpebjcaaDT1
import Derived.Test.YthfcodelpebjcaaV1
import Derived.Test.YthfcodelpebjcaaG1
import Derived.Test.YthfcodelpebjcaaX0
import Derived.Test.YthfcodelpebjcaaZabG9
namespace Go.Proofs.Ythfcodelpebjcaa
open Go.Ab







theorem minorsL_len (n : Nat) (m : List (List Int)) : (minorsL n m).length = 2 ^ n := by simp [minorsL]



end Go.Proofs.Ythfcodelpebjcaa
