/- Symmetric matrices whose principal minors are not less than 0 have forms that are not less than 0. No program here. -/
import Derived.Test.YtdchibdcfdbcpaaGreatGLL
namespace Go.Ab

/-- All principal minors, by ascending lists of places, are at least 0. -/
def PSm (n : Nat) (A : Mat) : Prop := ∀ l : List Nat, l.Sublist (List.range n) → 0 ≤ det l.length (fun i j => A (l.getD i 0) (l.getD j 0))

theorem range_up (n : Nat) : List.range (n + 1) = 0 :: (List.range n).map (· + 1) := by
  rw [List.range_succ_eq_map]

theorem gD_up (l : List Nat) {i : Nat} (hi : i < l.length) : (l.map (· + 1)).getD i 0 = l.getD i 0 + 1 := by
  simp [List.getD_eq_getElem?_getD, hi]

theorem PSm.low {n : Nat} {A : Mat} (h : PSm (n + 1) A) : PSm n fun i j => A (i + 1) (j + 1) := fun l hl => by
  have := h (l.map (· + 1)) (by rw [range_up]; exact (hl.map _).cons _)
  rw [List.length_map] at this
  have e : det l.length (fun i j => A ((l.map (· + 1)).getD i 0) ((l.map (· + 1)).getD j 0)) = det l.length (fun i j => A (l.getD i 0 + 1) (l.getD j 0 + 1)) := det_congr fun i j hi hj => by rw [gD_up l hi, gD_up l hj]
  rw [e] at this
  exact this

theorem PSm.first {n : Nat} {A : Mat} (h : PSm (n + 1) A) : 0 ≤ A 0 0 := by
  have := h [0] (by rw [range_up]; exact (List.nil_sublist _).cons_cons _)
  have e : det [0].length (fun i j => A ([0].getD i 0) ([0].getD j 0)) = A 0 0 := by
    show det 1 _ = _
    simp [det, sumTo, skip, sgn]
  rw [e] at this
  exact this

theorem PSm.chio {n : Nat} {A : Mat} (h : PSm (n + 1) A) (ha : 0 < A 0 0) : PSm n (chio A) := fun l hl => by
  have h1 := h (0 :: l.map (· + 1)) (by rw [range_up]; exact (hl.map _).cons_cons _)
  have hlen : (0 :: l.map (· + 1)).length = l.length + 1 := by simp
  rw [hlen] at h1
  have h2 : A 0 0 * det l.length (fun i j => Go.Ab.chio A (l.getD i 0) (l.getD j 0)) = A 0 0 ^ l.length * det (l.length + 1) (fun i j => A ((0 :: l.map (· + 1)).getD i 0) ((0 :: l.map (· + 1)).getD j 0)) := by
    have q := det_chio (n := l.length) (A := fun i j => A ((0 :: l.map (· + 1)).getD i 0) ((0 :: l.map (· + 1)).getD j 0))
    have e : det l.length (Go.Ab.chio fun i j => A ((0 :: l.map (· + 1)).getD i 0) ((0 :: l.map (· + 1)).getD j 0)) = det l.length (fun i j => Go.Ab.chio A (l.getD i 0) (l.getD j 0)) := det_congr fun i j hi hj => by
      show A 0 0 * A ((l.map (· + 1)).getD i 0) ((l.map (· + 1)).getD j 0) - A ((l.map (· + 1)).getD i 0) 0 * A 0 ((l.map (· + 1)).getD j 0) = _
      rw [gD_up l hi, gD_up l hj]
      rfl
    rw [e] at q
    exact q
  have h3 : 0 ≤ A 0 0 * det l.length (fun i j => Go.Ab.chio A (l.getD i 0) (l.getD j 0)) := by
    rw [h2]
    exact Int.mul_nonneg (Int.pow_nonneg (by omega)) h1
  exact Int.nonneg_of_mul_nonneg_right h3 ha

theorem PSm.edge {n : Nat} {A : Mat} (h : PSm (n + 1) A) (hs : ∀ i j, i < n + 1 → j < n + 1 → A i j = A j i) (ha : A 0 0 = 0) {j : Nat} (hj : j < n) : A 0 (j + 1) = 0 := by
  have h1 := h [0, j + 1] (by
    rw [range_up]
    refine List.Sublist.cons_cons _ ?_
    have : [j].Sublist (List.range n) := List.singleton_sublist.2 (by simpa using hj)
    exact this.map (· + 1))
  have e : det [0, j + 1].length (fun i k => A ([0, j + 1].getD i 0) ([0, j + 1].getD k 0)) = A 0 0 * A (j + 1) (j + 1) - A 0 (j + 1) * A (j + 1) 0 := by
    show det 2 _ = _
    rw [det2]
    rfl
  rw [e, ha, Int.zero_mul, hs (j + 1) 0 (by omega) (by omega)] at h1
  rcases Int.lt_trichotomy (A 0 (j + 1)) 0 with g | g | g
  · have := Int.mul_pos (show 0 < -A 0 (j + 1) by omega) (show 0 < -A 0 (j + 1) by omega)
    rw [Int.neg_mul, Int.mul_neg, Int.neg_neg] at this
    omega
  · exact g
  · have := Int.mul_pos g g
    omega

theorem bil_first {n : Nat} {A : Mat} {x : Nat → Int} : bil (n + 1) A x x = x 0 * (A 0 0 * x 0 + sumTo n fun j => A 0 (j + 1) * x (j + 1)) + (x 0 * sumTo n fun i => x (i + 1) * A (i + 1) 0) + bil n (fun i j => A (i + 1) (j + 1)) (fun i => x (i + 1)) fun i => x (i + 1) := by
  unfold bil
  rw [sumTo_first, sumTo_first]
  have e : sumTo n (fun i => x (i + 1) * sumTo (n + 1) fun j => A (i + 1) j * x j) = (x 0 * sumTo n fun i => x (i + 1) * A (i + 1) 0) + sumTo n fun i => x (i + 1) * sumTo n fun j => A (i + 1) (j + 1) * x (j + 1) := by
    rw [← sumTo_mul, ← sumTo_add]
    refine sumTo_congr fun i _ => ?_
    rw [sumTo_first, Int.mul_add]
    congr 1
    ac_rfl
  rw [e]
  dsimp only
  omega

theorem sq_nonneg (x : Int) : 0 ≤ x * x := by
  rcases Int.le_total 0 x with h | h
  · exact Int.mul_nonneg h h
  · have := Int.mul_nonneg (show 0 ≤ -x by omega) (show 0 ≤ -x by omega)
    rwa [Int.neg_mul, Int.mul_neg, Int.neg_neg] at this

/-- The form of a semidefinite matrix. -/
theorem PSm.form : ∀ {n : Nat} {A : Mat}, PSm n A → (∀ i j, i < n → j < n → A i j = A j i) → ∀ x : Nat → Int, 0 ≤ bil n A x x
  | 0, _, _, _, _ => Int.le_refl 0
  | n + 1, A, h, hs, x => by
    have hlow : ∀ i j, i < n → j < n → A (i + 1) (j + 1) = A (j + 1) (i + 1) := fun i j hi hj => hs _ _ (by omega) (by omega)
    have eS : (sumTo n fun i => x (i + 1) * A (i + 1) 0) = sumTo n fun j => A 0 (j + 1) * x (j + 1) := sumTo_congr fun i hi => by
      rw [hs (i + 1) 0 (by omega) (by omega)]
      exact Int.mul_comm _ _
    rcases Int.lt_or_eq_of_le h.first with ha | ha
    · have ih := PSm.form (h.chio ha) (fun i j hi hj => by
        unfold Go.Ab.chio
        rw [hlow i j hi hj, hs (i + 1) 0 (by omega) (by omega), hs 0 (j + 1) (by omega) (by omega), Int.mul_comm (A 0 (i + 1))]) fun i => x (i + 1)
      have e : bil n (Go.Ab.chio A) (fun i => x (i + 1)) (fun i => x (i + 1)) = A 0 0 * bil n (fun i j => A (i + 1) (j + 1)) (fun i => x (i + 1)) (fun i => x (i + 1)) + -((sumTo n fun j => A 0 (j + 1) * x (j + 1)) * sumTo n fun j => A 0 (j + 1) * x (j + 1)) := by
        unfold bil
        rw [← sumTo_mul]
        conv => rhs; rhs; rw [← eS, Int.mul_comm, ← sumTo_mul, ← sumTo_neg]
        rw [← sumTo_add]
        refine sumTo_congr fun i hi => ?_
        dsimp only
        have e2 : (sumTo n fun j => Go.Ab.chio A i j * x (j + 1)) = A 0 0 * (sumTo n fun j => A (i + 1) (j + 1) * x (j + 1)) + -(A (i + 1) 0 * sumTo n fun j => A 0 (j + 1) * x (j + 1)) := by
          rw [← sumTo_mul, ← sumTo_mul, ← sumTo_neg, ← sumTo_add]
          refine sumTo_congr fun j hj => ?_
          unfold Go.Ab.chio
          rw [Int.sub_mul]
          rw [show A 0 0 * A (i + 1) (j + 1) * x (j + 1) = A 0 0 * (A (i + 1) (j + 1) * x (j + 1)) by ac_rfl, show A (i + 1) 0 * A 0 (j + 1) * x (j + 1) = A (i + 1) 0 * (A 0 (j + 1) * x (j + 1)) by ac_rfl]
          omega
        rw [e2, eS, Int.mul_add, Int.mul_neg]
        congr 1
        · ac_rfl
        · congr 1
          ac_rfl
      rw [e] at ih
      refine Int.nonneg_of_mul_nonneg_right (a := A 0 0) ?_ ha
      rw [bil_first, eS]
      generalize (sumTo n fun j => A 0 (j + 1) * x (j + 1)) = S at *
      generalize bil n (fun i j => A (i + 1) (j + 1)) (fun i => x (i + 1)) (fun i => x (i + 1)) = B at *
      have q := sq_nonneg (A 0 0 * x 0 + S)
      have : A 0 0 * (x 0 * (A 0 0 * x 0 + S) + x 0 * S + B) = (A 0 0 * x 0 + S) * (A 0 0 * x 0 + S) + (A 0 0 * B + -(S * S)) := by grind
      omega
    · have ih := PSm.form h.low hlow fun i => x (i + 1)
      have z : (sumTo n fun j => A 0 (j + 1) * x (j + 1)) = 0 := sumTo_zero fun j hj => by rw [h.edge hs ha.symm hj, Int.zero_mul]
      rw [bil_first, eS, z, ← ha]
      simp only [Int.zero_mul, Int.add_zero, Int.mul_zero, Int.zero_add]
      exact ih

/-- Ascending lists of places are sets. -/
theorem sub_idxs : ∀ (n : Nat) (l : List Nat), l.Sublist (List.range n) → ∃ s, s < 2 ^ n ∧ idxs n s = l
  | 0, l, h => ⟨0, by simp, by
    have : l = [] := List.sublist_nil.1 h
    rw [this]
    rfl⟩
  | n + 1, l, h => by
    rw [List.range_succ] at h
    obtain ⟨l1, l2, rfl, h1, h2⟩ := List.sublist_append_iff.1 h
    obtain ⟨s, hs, e⟩ := sub_idxs n l1 h1
    have hp : 2 ^ n < 2 ^ (n + 1) := Nat.pow_lt_pow_right (by decide) (Nat.lt_succ_self n)
    have low : ∀ t v, t < 2 ^ (n + 1) → (∀ c, c ≠ n → t.testBit c = s.testBit c) → t.testBit n = v → idxs n t = l1 := fun t v ht hb _ => by
      rw [← e]
      unfold idxs
      refine List.filter_congr fun i hi => ?_
      have : i < n := by simpa using hi
      exact hb i (by omega)
    rcases List.sublist_cons_iff.1 h2 with g | ⟨r, g, g2⟩
    · have : l2 = [] := List.sublist_nil.1 g
      subst this
      obtain ⟨t, t1, t2, t3⟩ := bit_put (n := n + 1) (s := s) (k := n) (by omega) (Nat.lt_succ_self n) false
      exact ⟨t, t1, by rw [idxs_out t2, low t _ t1 t3 t2, List.append_nil]⟩
    · have : r = [] := List.sublist_nil.1 g2
      subst this
      subst g
      obtain ⟨t, t1, t2, t3⟩ := bit_put (n := n + 1) (s := s) (k := n) (by omega) (Nat.lt_succ_self n) true
      exact ⟨t, t1, by rw [idxs_in t2, low t _ t1 t3 t2]⟩

theorem PSm_of {n : Nat} {m : List (List Int)} (h : ∀ s, s < 2 ^ n → 0 ≤ minorL n m s) : PSm n (mAt m) := fun l hl => by
  obtain ⟨s, hs, e⟩ := sub_idxs n l hl
  have := h s hs
  unfold minorL at this
  rw [e] at this
  have e2 : det l.length (mAt (partRC n m s s)) = det l.length (fun i j => mAt m (l.getD i 0) (l.getD j 0)) := det_congr fun i j hi hj => by
    unfold partRC
    rw [e]
    simp [mAt, List.getD_eq_getElem?_getD, hi, hj]
  rw [e2] at this
  exact this

end Go.Ab
