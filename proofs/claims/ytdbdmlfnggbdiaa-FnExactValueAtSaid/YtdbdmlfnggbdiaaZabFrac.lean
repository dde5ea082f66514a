/- Fractions in lowest terms. No program here. -/
import Derived.Test.YtdbdmlfnggbdiaaZabRd
namespace Go.Ab

theorem gcd_step (a b : Int) : Int.gcd b (a.tmod b) = Int.gcd a b := by
  simp only [Int.gcd, Int.natAbs_tmod]
  rw [Nat.gcd_comm, ← Nat.gcd_rec, Nat.gcd_comm]

theorem tmod_lt (a : Int) {b : Int} (h : b ≠ 0) : (a.tmod b).natAbs < b.natAbs := by
  rw [Int.natAbs_tmod]
  exact Nat.mod_lt _ (by omega)

def inR (lo hi n : Int) : Bool := decide (lo ≤ n) && decide (n ≤ hi)

theorem inR_iff {lo hi n : Int} : inR lo hi n = true ↔ lo ≤ n ∧ n ≤ hi := by simp [inR]

abbrev Frac := Int × Int

/-- A fraction whose numbers are at most m. -/
def isFr (m : Int) (a : Frac) : Bool := inR 1 m a.2 && inR (-m) m a.1 && decide (Int.gcd a.1 a.2 = 1)

theorem isFr_iff {m : Int} {a : Frac} : isFr m a = true ↔ (1 ≤ a.2 ∧ a.2 ≤ m) ∧ (-m ≤ a.1 ∧ a.1 ≤ m) ∧ Int.gcd a.1 a.2 = 1 := by
  simp [isFr, inR, and_assoc]

/-- The fraction of two numbers, the second one not 0. -/
def frac (n d : Int) : Frac := if d < 0 then (-(n / Int.gcd n d), -(d / Int.gcd n d)) else (n / Int.gcd n d, d / Int.gcd n d)

/-- The same, if it is within the limits. -/
def fracT (n d : Int) : Frac × Int := if isFr 1000000000 (frac n d) then (frac n d, 0) else ((0, 0), 3)

theorem gcd_pos {n d : Int} (h : d ≠ 0) : 0 < Int.gcd n d := Int.gcd_pos_of_ne_zero_right n h

theorem frac_pos {n d : Int} (h : d ≠ 0) : 0 < (frac n d).2 := by
  have hg := gcd_pos (n := n) h
  obtain ⟨k, hk⟩ := Int.gcd_dvd_right n d
  unfold frac
  have h1 : d / (Int.gcd n d : Int) = k := by
    conv => lhs; lhs; rw [hk]
    rw [Int.mul_ediv_cancel_left _ (by omega)]
  have hk0 : k ≠ 0 := fun e => h (by rw [hk, e, Int.mul_zero])
  split
  · rename_i hd
    simp only [h1]
    rcases Int.lt_or_gt_of_ne hk0 with h2 | h2
    · omega
    · have : 0 < (Int.gcd n d : Int) * k := Int.mul_pos (by omega) h2
      omega
  · rename_i hd
    simp only [h1]
    rcases Int.lt_or_gt_of_ne hk0 with h2 | h2
    · have : (Int.gcd n d : Int) * k < 0 := Int.mul_neg_of_pos_of_neg (by omega) h2
      omega
    · exact h2

theorem frac_gcd {n d : Int} (h : d ≠ 0) : Int.gcd (frac n d).1 (frac n d).2 = 1 := by
  have hg := gcd_pos (n := n) h
  have h1 : Int.gcd (n / Int.gcd n d) (d / Int.gcd n d) = 1 := by
    rw [Int.gcd_ediv (Int.gcd_dvd_left n d) (Int.gcd_dvd_right n d)]
    simp
    exact Nat.div_self hg
  unfold frac
  split
  · simp only [Int.neg_gcd, Int.gcd_neg]
    exact h1
  · exact h1

/-- A fraction's numbers times the others'. -/
theorem frac_mul {n d : Int} (h : d ≠ 0) : (frac n d).1 * d = n * (frac n d).2 := by
  have hg := gcd_pos (n := n) h
  obtain ⟨k, hk⟩ := Int.gcd_dvd_right n d
  obtain ⟨j, hj⟩ := Int.gcd_dvd_left n d
  have h1 : d / (Int.gcd n d : Int) = k := by
    conv => lhs; lhs; rw [hk]
    rw [Int.mul_ediv_cancel_left _ (by omega)]
  have h2 : n / (Int.gcd n d : Int) = j := by
    conv => lhs; lhs; rw [hj]
    rw [Int.mul_ediv_cancel_left _ (by omega)]
  unfold frac
  rw [h1, h2]
  generalize (Int.gcd n d : Int) = g at *
  split
  · simp only
    rw [hk, hj]
    grind
  · simp only
    rw [hk, hj]
    grind

end Go.Ab
