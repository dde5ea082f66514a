/- Contracts of the tests of sets. No condition. -/
import Derived.Test.YtakbahndgmiobaaV0
import Derived.Test.YtakbahndgmiobaaB1
import Derived.Test.YtakbahndgmiobaaB2
import Derived.Test.YtakbahndgmiobaaB4
namespace Go.Proofs.Ytakbahndgmiobaa
open Go.Ab



abbrev setOk (n : Nat) (s : Int) : Bool := inR 0 (((2 ^ n : Nat) : Int) - 1) s

theorem setOk_nat {n : Nat} {s : Int} (h : setOk n s = true) : s = (s.toNat : Nat) ∧ s.toNat < 2 ^ n := by
  have := inR_iff.1 h
  omega

theorem pow5 {n : Nat} (h : n ≤ 5) : 2 ^ n ≤ 32 := Nat.pow_le_pow_right (n := 2) (j := 5) (by decide) h

theorem i64_pow {n : Nat} (h : n ≤ 5) : I64 (((2 ^ n : Nat) : Int) - 1) := by
  have := pow5 h
  generalize 2 ^ n = q at *
  unfold I64
  omega


def setC (p : Prob) (s : Int) : Int := if isProb p = true then (if setOk p.2.length s = true then 0 else 2) else 1



end Go.Proofs.Ytakbahndgmiobaa
