/- How the laws' arguments read on the abstract heap. No condition. -/
import Derived.Test.YtbcfknboheghkaaGreatGAA
import Derived.Test.YtbcfknboheghkaaGreatZabG6
namespace Go.Proofs.YtbcfknboheghkaaGreat
open Go.Ab

end Go.Proofs.YtbcfknboheghkaaGreat
