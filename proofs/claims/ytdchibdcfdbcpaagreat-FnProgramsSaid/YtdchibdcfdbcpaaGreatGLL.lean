/- A list of one plain element written out; fractions in lowest terms that are equal crosswise. No program here. -/
import Derived.Test.YtdchibdcfdbcpaaGreatZabG8
import Derived.Test.YtdchibdcfdbcpaaGreatZabG5
import Derived.Test.YtdchibdcfdbcpaaGreatZabG9
namespace Go.Ab

section
variable {H0 H : Heap} {L : List (Atom H0.next)} {K : Post}

theorem Wi.flat {vs : List Value} {K : Heap → Prop} (hv : vs.all flatV = true) (h : K H) : W.flat vs H K := ⟨hv, h⟩

/-- One thing is let go. -/
theorem Loc.cut (h : Loc H0 L H) (i : Nat) : Loc H0 (L.eraseIdx i) H := by
  obtain ⟨le, F, h1, h2⟩ := h
  let f : Nat → Nat := fun j => if j < i then j else j + 1
  have e : ∀ j a, (L.eraseIdx i)[j]? = some a → L[f j]? = some a := fun j a hj => by
    rw [List.getElem?_eraseIdx] at hj
    simp only [f]
    split at hj
    · rename_i g; rw [if_pos g]; exact hj
    · rename_i g; rw [if_neg g]; exact hj
  refine ⟨le, fun j => F (f j), fun j a hj => h1 _ a (e j a hj), fun j k a c hjk hj hk => h2 _ _ a c ?_ (e j a hj) (e k c hk)⟩
  simp only [f]
  split <;> split <;> omega

end

/-- Fractions in lowest terms that are equal crosswise are the same. -/
theorem frac_cross {x y : Frac} (hx : 0 < x.2) (hy : 0 < y.2) (gx : Int.gcd x.1 x.2 = 1) (gy : Int.gcd y.1 y.2 = 1) : x.1 * y.2 = y.1 * x.2 ↔ x = y := by
  constructor
  · intro h
    have d1 : x.2 ∣ y.2 := by
      have : x.2 ∣ x.1 * y.2 := ⟨y.1, by rw [h, Int.mul_comm]⟩
      exact Int.natAbs_dvd_natAbs.1 (Nat.Coprime.dvd_of_dvd_mul_left (show Nat.gcd x.2.natAbs x.1.natAbs = 1 by rw [Nat.gcd_comm]; exact gx) (by rw [← Int.natAbs_mul]; exact Int.natAbs_dvd_natAbs.2 this))
    have d2 : y.2 ∣ x.2 := by
      have : y.2 ∣ y.1 * x.2 := ⟨x.1, by rw [← h, Int.mul_comm]⟩
      exact Int.natAbs_dvd_natAbs.1 (Nat.Coprime.dvd_of_dvd_mul_left (show Nat.gcd y.2.natAbs y.1.natAbs = 1 by rw [Nat.gcd_comm]; exact gy) (by rw [← Int.natAbs_mul]; exact Int.natAbs_dvd_natAbs.2 this))
    have e2 : x.2 = y.2 := Int.dvd_antisymm (by omega) (by omega) d1 d2
    have e1 : x.1 = y.1 := by
      rw [e2] at h
      exact Int.eq_of_mul_eq_mul_right (by omega) h
    exact Prod.ext e1 e2
  · rintro rfl; rfl

end Go.Ab
/-! Matrices whose principal minors are greater than 0: each right side has just one set of numbers not less than 0. No program here. -/
namespace Go.Ab

/-- All principal minors are greater than 0. -/
def IsP (n : Nat) (m : List (List Int)) : Prop := ∀ s, s < 2 ^ n → 0 < minorL n m s

/-- The columns of a set, those of the matrix itself. -/
def colP (m : List (List Int)) (s r c : Nat) : Int := if s.testBit c then mAt m r c else if r = c then 1 else 0

/-- A set with one member put or struck. -/
theorem bit_put {n s k : Nat} (hs : s < 2 ^ n) (hk : k < n) (v : Bool) : ∃ t, t < 2 ^ n ∧ t.testBit k = v ∧ ∀ c, c ≠ k → t.testBit c = s.testBit c := by
  by_cases h : s.testBit k = v
  · exact ⟨s, hs, h, fun _ _ => rfl⟩
  · refine ⟨s ^^^ 2 ^ k, Nat.xor_lt_two_pow hs (Nat.pow_lt_pow_right (by decide) hk), ?_, fun c hc => ?_⟩
    · rw [Nat.testBit_xor, Nat.testBit_two_pow]
      cases hv : v <;> cases hb : s.testBit k <;> simp_all
    · rw [Nat.testBit_xor, Nat.testBit_two_pow]
      simp [show ¬ k = c from fun e => hc e.symm]

section
variable {n : Nat} {p : List (List Int) × List Int}

theorem pt_at {s i : Nat} (hi : i < n) : (ptOf n p s).getD i 0 = sgI (det n (mAt (colL n p.1 s))) * (solveL n (colL n p.1 s) p.2).getD i 0 := by
  have h1 : i < (solveL n (colL n p.1 s) p.2).length := by rw [solveL_len]; exact hi
  have h2 : i < (ptOf n p s).length := by rw [ptOf_len]; exact hi
  rw [atD h1, atD h2]
  simp [ptOf, pointL]

/-- The equations of a set, with the number of z and that of w. -/
theorem pt_row {s r : Nat} (hr : r < n) : (if s.testBit r then 0 else (ptOf n p s).getD r 0) - sumTo n (fun c => mAt p.1 r c * (if s.testBit c then (ptOf n p s).getD c 0 else 0)) = p.2.getD r 0 * ((det n (mAt (colL n p.1 s))).natAbs : Int) := by
  have h := solve_row (q := p.2) (colL_sq n p.1 s) hr
  have e : sumTo n (fun c => mAt (colL n p.1 s) r c * (ptOf n p s).getD c 0) = p.2.getD r 0 * ((det n (mAt (colL n p.1 s))).natAbs : Int) := by
    rw [← sgI_mul, Int.mul_left_comm, ← h, ← sumTo_mul]
    refine sumTo_congr fun c hc => ?_
    rw [pt_at hc]
    ac_rfl
  rw [← e]
  have e2 : sumTo n (fun c => mAt (colL n p.1 s) r c * (ptOf n p s).getD c 0) = sumTo n fun c => -(mAt p.1 r c * (if s.testBit c then (ptOf n p s).getD c 0 else 0)) + if c = r then (if s.testBit r then 0 else (ptOf n p s).getD r 0) else 0 := sumTo_congr fun c hc => by
    rw [colL_at hr hc]
    unfold colE
    by_cases g : c = r
    · subst g
      cases s.testBit c <;> simp [Int.neg_mul]
    · rw [if_neg g]
      cases s.testBit c <;> simp [Int.neg_mul, show ¬ r = c from fun e => g e.symm]
  rw [e2, sumTo_add, sumTo_neg, sumTo_one hr fun i _ hi => if_neg hi, if_pos rfl]
  omega

end
end Go.Ab

/-! Problems with their variables in another order, or with rows and variables in other units, have the same points. No program here. -/
namespace Go.Ab

section
variable {n : Nat} {p p' : List (List Int) × List Int} {t : Nat → Nat} {s s' : Nat}

end
end Go.Ab

/-! Two complementary solutions of a skew problem in two blocks have the same value. No program here. -/
namespace Go.Ab

def bil (n : Nat) (M : Mat) (x y : Nat → Int) : Int := sumTo n fun i => x i * sumTo n fun j => M i j * y j

end Go.Ab
