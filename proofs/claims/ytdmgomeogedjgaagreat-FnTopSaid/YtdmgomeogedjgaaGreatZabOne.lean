/- A list of one plain element written out; fractions in lowest terms that are equal crosswise. No program here. -/
import Derived.Test.YtdmgomeogedjgaaGreatZabG8
import Derived.Test.YtdmgomeogedjgaaGreatZabG5
import Derived.Test.YtdmgomeogedjgaaGreatZabG9
namespace Go.Ab

section
variable {H0 H : Heap} {L : List (Atom H0.next)} {K : Post}

theorem Wl.lit1 {α : Type} {r : Rd α} {m : Nat} (hm : r.n = m) {zc cs : List Value} {ty : TypeId} {u : Value} {x : α} (hz : zc.length = m) (hu : cellsA u = some cs) (hx : ∀ H, r.rel H [] cs x) (h : Loc H0 L H)
    (k : ∀ H' v, Loc H0 (.grow r ty v [x] :: L) H' → K v H') : W.lit 1 zc ty [(0, m, u)] H K := by
  subst hm
  have hl : cs.length = r.n := r.len (hx H)
  refine Wi.lit (cells := cs) ?_ fun H1 l1 n1 k1 => k H1 _ (h.cons l1 (bs := [H.next]) (.inr ⟨H.next, 2, _, fun _ => [], rfl, rfl, by simp, by simp, ?_, ⟨by omega, k1, by simp, by simp, by simp [hl], fun i hi => ?_⟩, rfl, hz, by simp [hl], r.cell (hx H)⟩) fun b hb => by simp at hb; omega)
  · have e : reps 1 zc = zc := by simp [reps]
    simp only [fillA, hu, e, hl, hz, Nat.zero_add, Nat.le_refl, and_self, if_true, List.take_zero, List.nil_append]
    rw [List.drop_of_length_le (by omega), List.append_nil]
  · intro c hc kc hk
    simp at hc
    subst hc
    rw [k1] at hk
    cases hk
    rfl
  · have : i = 0 := by simp at hi; omega
    subst this
    have e : cellsAt r.n cs 0 0 = cs := by unfold cellsAt; simp [← hl]
    rw [e]
    exact hx H1

/-- One element is appended; what follows also looks at the heap ahead of it. -/
theorem Wl.pushPK {α : Type} {r : Rd α} [p : Plain r] {ty ty' : TypeId} {v u : Value} {zc cs : List Value} {x : α} {xs : List α} {i m : Nat} {K : Heap → Post} (hm : r.n = m) (hz : zc.length = m) (hu : cellsA u = some cs) (hx : ∀ H, r.rel H [] cs x) (h : Loc H0 L H) [c : AtV L [v] (.grow r ty v xs) i]
    (hlen : xs.length < 16777216) (k : ∀ H1 H' v', Loc H0 L H1 → Loc H0 (L.set i (.grow r ty v' (xs ++ [x]))) H' → K H1 v' H') : W.lit 1 zc ty' [(0, m, u)] H fun y H => (fun Hk => W.append m ty v y H (K Hk)) H := by
  subst hm
  have hl : cs.length = r.n := r.len (hx H)
  refine Wi.lit (cells := cs) ?_ fun H1 l1 n1 k1 => ?_
  · have e : reps 1 zc = zc := by simp [reps]
    simp only [fillA, hu, e, hl, hz, Nat.zero_add, Nat.le_refl, and_self, if_true, List.take_zero, List.nil_append]
    rw [List.drop_of_length_le (by omega), List.append_nil]
  · refine Wl.appendH (zs := [x]) rfl (h.to l1) c.get ⟨[H.next], .inr ⟨H.next, 0, 2, _, fun _ => [], rfl, rfl, ⟨by omega, k1, by simp, by simp, by simp [hl], fun i hi => ?_⟩⟩⟩ (by simp; omega) fun H' v' h' => k H1 H' v' (h.to l1) h'
    have : i = 0 := by simp at hi; omega
    subst this
    have e : cellsAt r.n cs 0 0 = cs := by unfold cellsAt; simp [← hl]
    rw [e]
    exact hx H1

theorem Wi.flat {vs : List Value} {K : Heap → Prop} (hv : vs.all flatV = true) (h : K H) : W.flat vs H K := ⟨hv, h⟩

/-- One thing is let go. -/
theorem Loc.cut (h : Loc H0 L H) (i : Nat) : Loc H0 (L.eraseIdx i) H := by
  obtain ⟨le, F, h1, h2⟩ := h
  let f : Nat → Nat := fun j => if j < i then j else j + 1
  have e : ∀ j a, (L.eraseIdx i)[j]? = some a → L[f j]? = some a := fun j a hj => by
    rw [List.getElem?_eraseIdx] at hj
    simp only [f]
    split at hj
    · rename_i g; rw [if_pos g]; exact hj
    · rename_i g; rw [if_neg g]; exact hj
  refine ⟨le, fun j => F (f j), fun j a hj => h1 _ a (e j a hj), fun j k a c hjk hj hk => h2 _ _ a c ?_ (e j a hj) (e k c hk)⟩
  simp only [f]
  split <;> split <;> omega

end

/-- Fractions in lowest terms that are equal crosswise are the same. -/
theorem frac_cross {x y : Frac} (hx : 0 < x.2) (hy : 0 < y.2) (gx : Int.gcd x.1 x.2 = 1) (gy : Int.gcd y.1 y.2 = 1) : x.1 * y.2 = y.1 * x.2 ↔ x = y := by
  constructor
  · intro h
    have d1 : x.2 ∣ y.2 := by
      have : x.2 ∣ x.1 * y.2 := ⟨y.1, by rw [h, Int.mul_comm]⟩
      exact Int.natAbs_dvd_natAbs.1 (Nat.Coprime.dvd_of_dvd_mul_left (show Nat.gcd x.2.natAbs x.1.natAbs = 1 by rw [Nat.gcd_comm]; exact gx) (by rw [← Int.natAbs_mul]; exact Int.natAbs_dvd_natAbs.2 this))
    have d2 : y.2 ∣ x.2 := by
      have : y.2 ∣ y.1 * x.2 := ⟨x.1, by rw [← h, Int.mul_comm]⟩
      exact Int.natAbs_dvd_natAbs.1 (Nat.Coprime.dvd_of_dvd_mul_left (show Nat.gcd y.2.natAbs y.1.natAbs = 1 by rw [Nat.gcd_comm]; exact gy) (by rw [← Int.natAbs_mul]; exact Int.natAbs_dvd_natAbs.2 this))
    have e2 : x.2 = y.2 := Int.dvd_antisymm (by omega) (by omega) d1 d2
    have e1 : x.1 = y.1 := by
      rw [e2] at h
      exact Int.eq_of_mul_eq_mul_right (by omega) h
    exact Prod.ext e1 e2
  · rintro rfl; rfl

end Go.Ab
