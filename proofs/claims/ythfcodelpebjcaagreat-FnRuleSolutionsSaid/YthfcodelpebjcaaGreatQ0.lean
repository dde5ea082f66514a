/- Fractions with a common denominator, as plain values. No condition. -/
import Derived.Test.YthfcodelpebjcaaGreatGAB
import Derived.Test.YthfcodelpebjcaaGreatZabG5
namespace Go.Proofs.YthfcodelpebjcaaGreat
open Go.Ab

/-- One more denominator. -/
def comStep (d e : Int) : Int := d.tdiv (Int.gcd d e) * e
def comTo (xs : List Frac) : Nat → Int
  | 0 => 1
  | i + 1 => comStep (comTo xs i) (xs.getD i (0, 1)).2

def comNum (d : Int) (a : Frac) : Int := a.1 * d.tdiv a.2

def okDen (m : Int) (xs : List Frac) : Prop := ∀ i, i < xs.length → comTo xs (i + 1) ≤ m
def okNum (m : Int) (d : Int) (xs : List Frac) : Prop := ∀ a ∈ xs, -m ≤ comNum d a ∧ comNum d a ≤ m

/-- The numerators by the least common denominator, and this, if all are within the limits. -/
noncomputable def tog (m n : Int) (xs : List Frac) : Option (List Int × Int) := open Classical in
  if okDen m xs ∧ okNum n (comTo xs xs.length) xs then some (xs.map (comNum (comTo xs xs.length)), comTo xs xs.length) else none

def Frs (xs : List Frac) : Prop := ∀ a ∈ xs, isFr 1000000000 a = true

theorem fr_at {xs : List Frac} {i : Nat} (hi : i < xs.length) (d : Frac) : xs.getD i d = xs[i] := by simp [List.getD_eq_getElem?_getD, List.getElem?_eq_getElem hi]

theorem comStep_pos {d e : Int} (hd : 1 ≤ d) (he : 1 ≤ e) : 1 ≤ comStep d e ∧ d ≤ comStep d e := by
  unfold comStep
  obtain ⟨k, hk⟩ := Int.gcd_dvd_left d e
  obtain ⟨j, hj⟩ := Int.gcd_dvd_right d e
  have hg : 0 < Int.gcd d e := Int.gcd_pos_of_ne_zero_left e (by omega)
  have hgi : (0 : Int) < Int.gcd d e := by omega
  have e1 : d.tdiv (Int.gcd d e) = k := by
    rw [Int.tdiv_eq_ediv_of_dvd (Int.gcd_dvd_left d e)]
    conv => lhs; lhs; rw [hk]
    rw [Int.mul_ediv_cancel_left _ (by omega)]
  rw [e1]
  have hk0 : 0 < k := by
    rcases Int.lt_or_le 0 k with h | h
    · exact h
    · have := Int.mul_nonpos_of_nonneg_of_nonpos (Int.le_of_lt hgi) h
      omega
  have hj0 : 0 < j := by
    rcases Int.lt_or_le 0 j with h | h
    · exact h
    · have := Int.mul_nonpos_of_nonneg_of_nonpos (Int.le_of_lt hgi) h
      omega
  have hge : (Int.gcd d e : Int) ≤ e := by
    have := Int.mul_le_mul_of_nonneg_left (show (1 : Int) ≤ j by omega) (Int.le_of_lt hgi)
    rw [← hj, Int.mul_one] at this
    exact this
  have h1 : k * (Int.gcd d e : Int) ≤ k * e := Int.mul_le_mul_of_nonneg_left hge (by omega)
  rw [Int.mul_comm, ← hk] at h1
  omega

theorem comStep_le {d e M : Int} (hd : 1 ≤ d) (he : 1 ≤ e) (hM : d ≤ M) : comStep d e ≤ M * e := by
  unfold comStep
  have hg : 0 < Int.gcd d e := Int.gcd_pos_of_ne_zero_left e (by omega)
  have : d.tdiv (Int.gcd d e) ≤ d := by
    rw [Int.tdiv_eq_ediv_of_nonneg (by omega)]
    exact Int.ediv_le_self _ (by omega)
  exact Int.mul_le_mul_of_nonneg_right (by omega) (by omega)

theorem fr_den {xs : List Frac} (h : Frs xs) {i : Nat} (hi : i < xs.length) : 1 ≤ xs[i].2 ∧ xs[i].2 ≤ 1000000000 ∧ -1000000000 ≤ xs[i].1 ∧ xs[i].1 ≤ 1000000000 := by
  have := isFr_iff.1 (h _ (List.getElem_mem hi))
  omega

theorem comTo_pos {xs : List Frac} (h : Frs xs) : ∀ {i : Nat}, i ≤ xs.length → 1 ≤ comTo xs i
  | 0, _ => by simp [comTo]
  | i + 1, hi => by
    have h1 := comTo_pos h (i := i) (by omega)
    simp only [comTo]
    rw [fr_at (by omega)]
    exact (comStep_pos h1 (fr_den h (by omega)).1).1

theorem comTo_mono {xs : List Frac} (h : Frs xs) : ∀ {d i : Nat}, i + d ≤ xs.length → comTo xs i ≤ comTo xs (i + d)
  | 0, i, _ => Int.le_refl _
  | d + 1, i, hd => by
    have h1 := comTo_mono h (d := d) (i := i) (by omega)
    have h2 := comTo_pos h (i := i + d) (by omega)
    have h3 := (comStep_pos h2 (fr_den h (i := i + d) (by omega)).1).2
    show comTo xs i ≤ comStep (comTo xs (i + d)) (xs.getD (i + d) (0, 1)).2
    rw [fr_at (by omega)]
    omega

end Go.Proofs.YthfcodelpebjcaaGreat
