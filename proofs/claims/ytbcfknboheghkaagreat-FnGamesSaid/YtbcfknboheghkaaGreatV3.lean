/- Contracts of the tests of sets. No condition. -/
import Derived.Test.YtbcfknboheghkaaGreatGNN
import Derived.Test.YtbcfknboheghkaaGreatGAA
namespace Go.Proofs.YtbcfknboheghkaaGreat
open Go.Ab



abbrev setOk (n : Nat) (s : Int) : Bool := inR 0 (((2 ^ n : Nat) : Int) - 1) s

theorem pow5 {n : Nat} (h : n ≤ 5) : 2 ^ n ≤ 32 := Nat.pow_le_pow_right (n := 2) (j := 5) (by decide) h

def setC (p : Prob) (s : Int) : Int := if isProb p = true then (if setOk p.2.length s = true then 0 else 2) else 1



end Go.Proofs.YtbcfknboheghkaaGreat
