/- A list of one plain element written out; fractions in lowest terms that are equal crosswise. No program here. -/
import Derived.Test.YtdmgomeogedjgaaGreatZabG8
import Derived.Test.YtdmgomeogedjgaaGreatZabG5
import Derived.Test.YtdmgomeogedjgaaGreatZabG9
namespace Go.Ab

section
variable {H0 H : Heap} {L : List (Atom H0.next)} {K : Post}

theorem Wi.flat {vs : List Value} {H0 : Heap} {K : Heap → Prop} (hv : vs.all flatV = true) (h : K H) : W.flat vs H0 H K := ⟨fun v hm => .inl (List.all_eq_true.1 hv v hm), h⟩
/-- One thing is let go. -/
theorem Loc.cut (h : Loc H0 L H) (i : Nat) : Loc H0 (L.eraseIdx i) H := by
  obtain ⟨le, F, h1, h2⟩ := h
  let f : Nat → Nat := fun j => if j < i then j else j + 1
  have e : ∀ j a, (L.eraseIdx i)[j]? = some a → L[f j]? = some a := fun j a hj => by
    rw [List.getElem?_eraseIdx] at hj
    simp only [f]
    split at hj
    · rename_i g; rw [if_pos g]; exact hj
    · rename_i g; rw [if_neg g]; exact hj
  refine ⟨le, fun j => F (f j), fun j a hj => h1 _ a (e j a hj), fun j k a c hjk hj hk => h2 _ _ a c ?_ (e j a hj) (e k c hk)⟩
  simp only [f]
  split <;> split <;> omega

end

/-- Fractions in lowest terms that are equal crosswise are the same. -/
theorem frac_cross {x y : Frac} (hx : 0 < x.2) (hy : 0 < y.2) (gx : Int.gcd x.1 x.2 = 1) (gy : Int.gcd y.1 y.2 = 1) : x.1 * y.2 = y.1 * x.2 ↔ x = y := by
  constructor
  · intro h
    have d1 : x.2 ∣ y.2 := by
      have : x.2 ∣ x.1 * y.2 := ⟨y.1, by rw [h, Int.mul_comm]⟩
      exact Int.natAbs_dvd_natAbs.1 (Nat.Coprime.dvd_of_dvd_mul_left (show Nat.gcd x.2.natAbs x.1.natAbs = 1 by rw [Nat.gcd_comm]; exact gx) (by rw [← Int.natAbs_mul]; exact Int.natAbs_dvd_natAbs.2 this))
    have d2 : y.2 ∣ x.2 := by
      have : y.2 ∣ y.1 * x.2 := ⟨x.1, by rw [← h, Int.mul_comm]⟩
      exact Int.natAbs_dvd_natAbs.1 (Nat.Coprime.dvd_of_dvd_mul_left (show Nat.gcd y.2.natAbs y.1.natAbs = 1 by rw [Nat.gcd_comm]; exact gy) (by rw [← Int.natAbs_mul]; exact Int.natAbs_dvd_natAbs.2 this))
    have e2 : x.2 = y.2 := Int.dvd_antisymm (by omega) (by omega) d1 d2
    have e1 : x.1 = y.1 := by
      rw [e2] at h
      exact Int.eq_of_mul_eq_mul_right (by omega) h
    exact Prod.ext e1 e2
  · rintro rfl; rfl

end Go.Ab
