/- Problems with their variables in another order, or with rows and variables in other units, have the same points. No program here. -/
import Derived.Test.YtbcfknboheghkaaGreatGLL
import Derived.Test.YtbcfknboheghkaaGreatZabG9
namespace Go.Ab

theorem bits_ex (f : Nat → Bool) : ∀ n, ∃ s, s < 2 ^ n ∧ ∀ i, i < n → s.testBit i = f i
  | 0 => ⟨0, by simp, fun i hi => by omega⟩
  | n + 1 => by
    obtain ⟨s, h1, h2⟩ := bits_ex f n
    have hp : 2 ^ n < 2 ^ (n + 1) := Nat.pow_lt_pow_right (by decide) (Nat.lt_succ_self n)
    obtain ⟨t, g1, g2, g3⟩ := bit_put (n := n + 1) (s := s) (k := n) (by omega) (Nat.lt_succ_self n) (f n)
    refine ⟨t, g1, fun i hi => ?_⟩
    by_cases e : i = n
    · subst e; exact g2
    · rw [g3 i e, h2 i (by omega)]

section
variable {n : Nat} {p p' : List (List Int) × List Int} {t : Nat → Nat} {s s' : Nat}

/-- Numbers that fulfil equations are the only ones. -/
theorem solve_told {rows : List (List Int)} {q : List Int} {y : Nat → Int} {d : Int} (hs : Sq n rows) (h : ∀ r, r < n → sumTo n (fun c => mAt rows r c * y c) = q.getD r 0 * d) {k : Nat} (hk : k < n) : (solveL n rows q).getD k 0 * d = y k * det n (mAt rows) := by
  have e0 : det n (mAt (putCol k q rows)) * d = det n (ucol (mAt rows) k fun r => sumTo n fun c => y c * mAt rows r c) := by
    have h1 := det_lin (n := n) (A := mAt rows) hk d 0 (fun r => q.getD r 0) (fun _ => 0)
    simp only [Int.zero_mul, Int.add_zero] at h1
    have h2 : det n (mAt (putCol k q rows)) = det n (ucol (mAt rows) k fun r => q.getD r 0) := det_congr fun r c hr hc => by
      rw [putCol_at hs hr hc]
      rfl
    rw [h2, Int.mul_comm, ← h1]
    refine det_congr fun r c hr hc => ?_
    unfold ucol
    dsimp only
    split
    · rw [Int.mul_comm, ← h r hr]
      exact sumTo_congr fun c _ => Int.mul_comm _ _
    · rfl
  rw [atD (by rw [solveL_len]; exact hk), solveL_at, e0, det_told hk]

end
end Go.Ab
