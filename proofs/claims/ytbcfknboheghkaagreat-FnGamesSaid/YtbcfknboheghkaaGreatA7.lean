/- The laws' helpers for lists of lists of fractions. No condition. -/
import Derived.Test.YtbcfknboheghkaaGreatA5
import Derived.Test.YtbcfknboheghkaaGreatA6
namespace Go.Proofs.YtbcfknboheghkaaGreat
open Go.Ab



abbrev RFSS : Rd (List (List Frac)) := Rd.slice RFS
abbrev mkFSS := mkl mkFS szFS
abbrev szFSS := szl szFS

end Go.Proofs.YtbcfknboheghkaaGreat
