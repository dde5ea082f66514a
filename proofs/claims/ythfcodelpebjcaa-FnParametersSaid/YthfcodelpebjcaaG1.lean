/- The contract of mapped. No condition. -/
import Derived.Test.YthfcodelpebjcaaD3
namespace Go.Proofs.Ythfcodelpebjcaa
open Go.Ab



/-- A function value of two places that gives a number. -/
def Fun2F (fv : Value) (H : Heap) (m : List (List Int)) (f : Nat → Nat → Int) : Prop :=
  ∀ (H' : Heap) (i k : Nat) (K : Post) (hi : i < m.length), k < m[i].length → H.Le H' → (∀ H2, H'.Le H2 → I64 (f i k) → K (.int .i64 (f i k)) H2) → W.call Try.prog fv #[.int .i64 i, .int .i64 k] H' K

def mapF (f : Nat → Nat → Int) (m : List (List Int)) : List (List Int) := m.mapIdx fun i r => r.mapIdx fun k _ => f i k


end Go.Proofs.Ythfcodelpebjcaa
