/- The laws' helpers for lists of fractions: marking and telling marks. No condition. -/
import Derived.Test.YtbcfknboheghkaaGreatGAA
namespace Go.Proofs.YtbcfknboheghkaaGreat
open Go.Ab





end Go.Proofs.YtbcfknboheghkaaGreat
