/- Matrices whose principal minors are greater than 0: each right side has just one set of numbers not less than 0. No program here. -/
import Derived.Test.YtbcfknboheghkaaZabG9
namespace Go.Ab

/-- All principal minors are greater than 0. -/
def IsP (n : Nat) (m : List (List Int)) : Prop := ∀ s, s < 2 ^ n → 0 < minorL n m s

/-- The columns of a set, those of the matrix itself. -/
def colP (m : List (List Int)) (s r c : Nat) : Int := if s.testBit c then mAt m r c else if r = c then 1 else 0

/-- A column that is told by the columns. -/
theorem det_told {n : Nat} {A : Mat} {y : Nat → Int} {k : Nat} (hk : k < n) : det n (ucol A k fun r => sumTo n fun c => y c * A r c) = y k * det n A := by
  rw [det_col_sum hk n y fun c r => A r c, sumTo_one hk fun c hc hck => by
    rw [det_same hc hk hck fun r => by
      unfold ucol
      rw [if_pos rfl, if_neg hck], Int.mul_zero], ucol_self]

theorem det_col0 {n : Nat} {A : Mat} {k : Nat} (hk : k < n) : det n (ucol A k fun _ => 0) = 0 := by
  have := det_lin (n := n) (A := A) hk 0 0 (fun _ => 0) (fun _ => 0)
  simpa using this

section
variable {n : Nat} {p : List (List Int) × List Int}

end
end Go.Ab
