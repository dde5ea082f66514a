/- What a program is; the contract of the program's IsProgram. No condition. -/
import Derived.Test.YthfcodelpebjcaaGreatGAB
import Derived.Test.YthfcodelpebjcaaGreatGCC
namespace Go.Proofs.YthfcodelpebjcaaGreat
open Go.Ab



/-- A quadratic program. -/
structure IsPrg (p : Prg) : Prop where
  n1 : 1 ≤ p.2.1.length
  nm : p.2.1.length + p.2.2.2.length ≤ 5
  dl : p.1.length = p.2.1.length
  al : p.2.2.1.length = p.2.2.2.length
  d : ∀ r ∈ p.1, r.length = p.2.1.length ∧ ∀ x ∈ r, -20 ≤ x ∧ x ≤ 20
  c : ∀ x ∈ p.2.1, -100 ≤ x ∧ x ≤ 100
  b : ∀ x ∈ p.2.2.2, -100 ≤ x ∧ x ≤ 100
  a : ∀ r ∈ p.2.2.1, r.length = p.2.1.length ∧ ∀ x ∈ r, -20 ≤ x ∧ x ≤ 20
  sym : ∀ i k (hi : i < p.1.length) (hk : k < p.1.length) (h1 : k < p.1[i].length) (h2 : i < p.1[k].length), p.1[i][k] = p.1[k][i]

theorem allUp_iff {m : Int} {xs : List Int} : allUp m xs = true ↔ ∀ x ∈ xs, -m ≤ x ∧ x ≤ m := by
  simp [allUp, inR, List.all_eq_true]

theorem isSq_iff {n : Nat} {m : List (List Int)} : isSq n m = true ↔ m.length = n ∧ ∀ r ∈ m, r.length = n := by
  simp [isSq, List.all_eq_true]


end Go.Proofs.YthfcodelpebjcaaGreat
