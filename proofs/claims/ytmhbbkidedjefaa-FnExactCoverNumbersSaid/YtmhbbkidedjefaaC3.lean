/- The contract of the program's allPlaces. No condition. -/
import Derived.Test.YtmhbbkidedjefaaA1
namespace Go.Proofs.Ytmhbbkidedjefaa
open Go.Ab



/-- A function value of two numbers that tells whether something holds. -/
def Pred2F (fv : Value) (H : Heap) (n : Nat) (p : Nat → Nat → Bool) : Prop :=
  ∀ (H' : Heap) (i k : Nat) (K : Post), H.Le H' → i < n → k < n → (∀ H2, H'.Le H2 → K (.bool (p i k)) H2) → W.call Try.prog fv #[.int .i64 i, .int .i64 k] H' K


end Go.Proofs.Ytmhbbkidedjefaa
