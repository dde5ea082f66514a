/- Contracts of the program's problem and ProgramProblem. No condition. -/
import Derived.Test.YthfcodelpebjcaaGreatN3
import Derived.Test.YthfcodelpebjcaaGreatGCC
namespace Go.Proofs.YthfcodelpebjcaaGreat
open Go.Ab






end Go.Proofs.YthfcodelpebjcaaGreat
