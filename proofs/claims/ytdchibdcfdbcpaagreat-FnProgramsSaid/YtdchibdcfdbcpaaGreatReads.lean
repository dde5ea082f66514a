/- How the laws' arguments read on the abstract heap. No condition. -/
import Derived.Test.YtdchibdcfdbcpaaGreatGAA
import Derived.Test.YtdchibdcfdbcpaaGreatZabG6
namespace Go.Proofs.YtdchibdcfdbcpaaGreat
open Go.Ab

end Go.Proofs.YtdchibdcfdbcpaaGreat
