/- Where a run ends. No condition. -/
import Derived.Test.YthfcodelpebjcaaSR1
namespace Go.Proofs.Ythfcodelpebjcaa
open Go.Ab

/-- Where a run ends, and how. -/
noncomputable def runOf (n : Nat) (p : Prob) (rule : Int) (s0 : Nat) : Nat × Int := open Classical in
  if h : ∃ k e, RunEnd n p rule s0 k e then (Classical.choose h, Classical.choose (Classical.choose_spec h)) else (0, 0)

theorem runOf_eq {n : Nat} {p : Prob} {rule : Int} {s0 k : Nat} {e : Int} (h : RunEnd n p rule s0 k e) : runOf n p rule s0 = (k, e) := by
  have hex : ∃ k e, RunEnd n p rule s0 k e := ⟨k, e, h⟩
  unfold runOf
  rw [dif_pos hex]
  have := run_one (Classical.choose_spec (Classical.choose_spec hex)) h
  exact Prod.ext this.1 this.2

end Go.Proofs.Ythfcodelpebjcaa
