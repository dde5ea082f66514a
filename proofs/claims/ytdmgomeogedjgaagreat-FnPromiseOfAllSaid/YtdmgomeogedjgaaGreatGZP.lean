/- Matrices whose principal minors are greater than 0: each right side has just one set of numbers not less than 0. No program here. -/
import Derived.Test.YtdmgomeogedjgaaGreatZabG9
namespace Go.Ab

/-- All principal minors are greater than 0. -/
def IsP (n : Nat) (m : List (List Int)) : Prop := ∀ s, s < 2 ^ n → 0 < minorL n m s

/-- The columns of a set, those of the matrix itself. -/
def colP (m : List (List Int)) (s r c : Nat) : Int := if s.testBit c then mAt m r c else if r = c then 1 else 0

theorem prodI_sign (s : Nat) : ∀ n, prodI (fun c => if s.testBit c then -1 else 1) n = (-1) ^ (idxs n s).length
  | 0 => rfl
  | n + 1 => by
    show prodI _ n * _ = _
    rw [prodI_sign s n]
    cases h : s.testBit n with
    | true => rw [idxs_in h, List.length_append, List.length_singleton, Int.pow_succ]; simp [h]
    | false => rw [idxs_out h]; simp [h]

theorem det_colP (n : Nat) (m : List (List Int)) (s : Nat) : det n (colP m s) = minorL n m s := by
  have h1 := det_cols n m s
  have h2 := det_scale (n := n) (s := colP m s) (B := fun c => if s.testBit c then -1 else 1) n (Nat.le_refl n)
  rw [prodI_sign] at h2
  have e : det n (mAt (colL n m s)) = det n (fun i j => if j < n then (if s.testBit j then (-1 : Int) else 1) * colP m s i j else colP m s i j) := det_congr fun i j hi hj => by
    rw [colL_at hi hj, if_pos hj]
    unfold colE colP
    cases s.testBit j <;> simp
  rw [← e, h1] at h2
  have hp : ((-1 : Int)) ^ (idxs n s).length ≠ 0 := Int.pow_ne_zero (by decide)
  exact (Int.eq_of_mul_eq_mul_left hp h2).symm

/-- A set with one member put or struck. -/
theorem bit_put {n s k : Nat} (hs : s < 2 ^ n) (hk : k < n) (v : Bool) : ∃ t, t < 2 ^ n ∧ t.testBit k = v ∧ ∀ c, c ≠ k → t.testBit c = s.testBit c := by
  by_cases h : s.testBit k = v
  · exact ⟨s, hs, h, fun _ _ => rfl⟩
  · refine ⟨s ^^^ 2 ^ k, Nat.xor_lt_two_pow hs (Nat.pow_lt_pow_right (by decide) hk), ?_, fun c hc => ?_⟩
    · rw [Nat.testBit_xor, Nat.testBit_two_pow]
      cases hv : v <;> cases hb : s.testBit k <;> simp_all
    · rw [Nat.testBit_xor, Nat.testBit_two_pow]
      simp [show ¬ k = c from fun e => hc e.symm]

theorem pos_comb {a b x y : Int} (ha : 0 ≤ a) (hb : 0 ≤ b) (hab : 0 < a + b) (hx : 0 < x) (hy : 0 < y) : 0 < a * x + b * y := by
  rcases Int.lt_or_eq_of_le ha with h | h
  · have := Int.mul_pos h hx
    have := Int.mul_nonneg hb (Int.le_of_lt hy)
    omega
  · have := Int.mul_pos (show 0 < b by omega) hy
    have := Int.mul_nonneg ha (Int.le_of_lt hx)
    omega

/-- Columns that are mixed of the matrix's and the unit's have a determinant greater than 0. -/
theorem mix_pos {n : Nat} {m : List (List Int)} (hP : IsP n m) {a b : Nat → Int} (h : ∀ c, c < n → 0 ≤ a c ∧ 0 ≤ b c ∧ 0 < a c + b c) : ∀ k, k ≤ n → ∀ s, s < 2 ^ n → 0 < det n (fun r c => if c < k then a c * mAt m r c + b c * (if r = c then 1 else 0) else colP m s r c)
  | 0, _, s, hs => by
    have e : det n (fun r c => if c < 0 then a c * mAt m r c + b c * (if r = c then 1 else 0) else colP m s r c) = det n (colP m s) := det_congr fun i j _ _ => if_neg (by omega)
    rw [e, det_colP]
    exact hP s hs
  | k + 1, hk, s, hs => by
    have hkn : k < n := by omega
    obtain ⟨s1, b1, c1, d1⟩ := bit_put hs hkn true
    obtain ⟨s0, b0, c0, d0⟩ := bit_put hs hkn false
    have p1 := mix_pos hP h k (by omega) s1 b1
    have p0 := mix_pos hP h k (by omega) s0 b0
    obtain ⟨g1, g2, g3⟩ := h k hkn
    have e : det n (fun r c => if c < k + 1 then a c * mAt m r c + b c * (if r = c then 1 else 0) else colP m s r c) = det n (ucol (fun r c => if c < k then a c * mAt m r c + b c * (if r = c then 1 else 0) else colP m s r c) k fun r => a k * mAt m r k + b k * (if r = k then 1 else 0)) := det_congr fun i j _ _ => by
      unfold ucol
      dsimp only
      by_cases hj : j = k
      · subst hj
        rw [if_pos (by omega), if_pos rfl]
      · rw [if_neg hj]
        by_cases hjk : j < k
        · rw [if_pos (by omega), if_pos hjk]
        · rw [if_neg (by omega), if_neg hjk]
    have e1 : det n (ucol (fun r c => if c < k then a c * mAt m r c + b c * (if r = c then 1 else 0) else colP m s r c) k fun r => mAt m r k) = det n (fun r c => if c < k then a c * mAt m r c + b c * (if r = c then 1 else 0) else colP m s1 r c) := det_congr fun i j _ _ => by
      unfold ucol
      dsimp only
      by_cases hj : j = k
      · subst hj
        rw [if_pos rfl, if_neg (Nat.lt_irrefl j)]
        unfold colP
        rw [c1]
        rfl
      · rw [if_neg hj]
        by_cases hjk : j < k
        · rw [if_pos hjk, if_pos hjk]
        · rw [if_neg hjk, if_neg hjk]
          unfold colP
          rw [d1 j hj]
    have e0 : det n (ucol (fun r c => if c < k then a c * mAt m r c + b c * (if r = c then 1 else 0) else colP m s r c) k fun r => if r = k then 1 else 0) = det n (fun r c => if c < k then a c * mAt m r c + b c * (if r = c then 1 else 0) else colP m s0 r c) := det_congr fun i j _ _ => by
      unfold ucol
      dsimp only
      by_cases hj : j = k
      · subst hj
        rw [if_pos rfl, if_neg (Nat.lt_irrefl j)]
        unfold colP
        rw [c0]
        rfl
      · rw [if_neg hj]
        by_cases hjk : j < k
        · rw [if_pos hjk, if_pos hjk]
        · rw [if_neg hjk, if_neg hjk]
          unfold colP
          rw [d0 j hj]
    rw [e, det_lin hkn, e1, e0]
    exact pos_comb g1 g2 g3 p1 p0

/-- A column that is told by the columns. -/
theorem det_told {n : Nat} {A : Mat} {y : Nat → Int} {k : Nat} (hk : k < n) : det n (ucol A k fun r => sumTo n fun c => y c * A r c) = y k * det n A := by
  rw [det_col_sum hk n y fun c r => A r c, sumTo_one hk fun c hc hck => by
    rw [det_same hc hk hck fun r => by
      unfold ucol
      rw [if_pos rfl, if_neg hck], Int.mul_zero], ucol_self]

theorem det_col0 {n : Nat} {A : Mat} {k : Nat} (hk : k < n) : det n (ucol A k fun _ => 0) = 0 := by
  have := det_lin (n := n) (A := A) hk 0 0 (fun _ => 0) (fun _ => 0)
  simpa using this

theorem sgI_eq0 {x : Int} (h : sgI x = 0) : x = 0 := by
  unfold sgI at h
  split at h
  · cases h
  · split at h
    · cases h
    · omega

theorem sgI_sq {x : Int} (h : x ≠ 0) : sgI x * sgI x = 1 := by
  unfold sgI
  split
  · decide
  · rw [if_pos (by omega)]; decide

/-- No numbers but 0 are turned against by the matrix everywhere. -/
theorem P_zero {n : Nat} {m : List (List Int)} (hP : IsP n m) {z : Nat → Int} (h : ∀ i, i < n → z i * (sumTo n fun c => mAt m i c * z c) ≤ 0) : ∀ i, i < n → z i = 0 := fun j hj => Classical.byContradiction fun hz => by
  obtain ⟨y, hy⟩ : ∃ y : Nat → Int, ∀ i, y i = sumTo n fun c => mAt m i c * z c := ⟨_, fun _ => rfl⟩
  obtain ⟨a, hA⟩ : ∃ a : Nat → Int, ∀ i, a i = ((z i).natAbs : Int) := ⟨fun i => ((z i).natAbs : Int), fun _ => rfl⟩
  obtain ⟨b, hB⟩ : ∃ b : Nat → Int, ∀ i, b i = if z i = 0 then 1 else -(y i * sgI (z i)) := ⟨_, fun _ => rfl⟩
  obtain ⟨x, hX⟩ : ∃ x : Nat → Int, ∀ i, x i = if z i = 0 then -(y i) else sgI (z i) := ⟨_, fun _ => rfl⟩
  have ax : ∀ i, a i * x i = z i := fun i => by
    rw [hA, hX]
    by_cases g : z i = 0
    · rw [if_pos g, g]; simp
    · rw [if_neg g, ← sgI_mul, Int.mul_comm (sgI (z i)) (z i), Int.mul_assoc, sgI_sq g, Int.mul_one]
  have bx : ∀ i, b i * x i = -(y i) := fun i => by
    rw [hB, hX]
    by_cases g : z i = 0
    · rw [if_pos g, if_pos g, Int.one_mul]
    · rw [if_neg g, if_neg g, Int.neg_mul, Int.mul_assoc, sgI_sq g, Int.mul_one]
  have hab : ∀ c, c < n → 0 ≤ a c ∧ 0 ≤ b c ∧ 0 < a c + b c := fun c hc => by
    have h1 := h c hc
    rw [← hy] at h1
    rw [hA, hB]
    by_cases g : z c = 0
    · rw [if_pos g]; omega
    · rw [if_neg g]
      have h2 : sgI (z c) * y c ≤ 0 := by
        apply Classical.byContradiction
        intro hn
        have := Int.mul_pos (show (0 : Int) < ((z c).natAbs : Int) by omega) (show 0 < sgI (z c) * y c by omega)
        rw [← Int.mul_assoc, Int.mul_comm _ (sgI (z c)), ← sgI_mul (x := z c), ← Int.mul_assoc, sgI_sq g, Int.one_mul] at this
        omega
      rw [Int.mul_comm] at h2
      omega
  have hd := mix_pos hP hab n (Nat.le_refl n) 0 (Nat.pow_pos (by decide))
  have e : det n (fun r c => if c < n then a c * mAt m r c + b c * (if r = c then 1 else 0) else colP m 0 r c) = det n (fun r c => a c * mAt m r c + b c * (if r = c then 1 else 0)) := det_congr fun _ c _ hc => if_pos hc
  rw [e] at hd
  have hr : ∀ r, r < n → (sumTo n fun c => x c * (a c * mAt m r c + b c * (if r = c then 1 else 0))) = 0 := fun r hr => by
    have e1 : (sumTo n fun c => x c * (a c * mAt m r c + b c * (if r = c then 1 else 0))) = sumTo n fun c => mAt m r c * z c + if c = r then -(y r) else 0 := sumTo_congr fun c _ => by
      rw [Int.mul_add, ← ax c]
      congr 1
      · ac_rfl
      · by_cases g : c = r
        · subst g
          rw [if_pos rfl, if_pos rfl, Int.mul_one, Int.mul_comm, bx]
        · rw [if_neg g, if_neg fun g2 => g g2.symm]; simp
    rw [e1, sumTo_add, sumTo_one hr fun i _ hi => if_neg hi, if_pos rfl, ← hy]
    omega
  have ht := det_told (n := n) (A := fun r c => a c * mAt m r c + b c * (if r = c then 1 else 0)) (y := x) hj
  have hz0 : det n (ucol (fun r c => a c * mAt m r c + b c * (if r = c then 1 else 0)) j fun r => sumTo n fun c => x c * (a c * mAt m r c + b c * (if r = c then 1 else 0))) = 0 := by
    refine Eq.trans ?_ (det_col0 (A := fun r c => a c * mAt m r c + b c * (if r = c then 1 else 0)) hj)
    refine det_congr fun r c hr' hc => ?_
    unfold ucol
    dsimp only
    split
    · exact hr r hr'
    · rfl
  rw [hz0] at ht
  rcases Int.mul_eq_zero.1 ht.symm with g | g
  · rw [hX, if_neg hz] at g
    exact hz (sgI_eq0 g)
  · omega

section
variable {n : Nat} {p : List (List Int) × List Int}

theorem P_det (hP : IsP n p.1) {s : Nat} (hs : s < 2 ^ n) : det n (mAt (colL n p.1 s)) ≠ 0 := fun h => by
  rw [det_cols] at h
  have := hP s hs
  rcases Int.mul_eq_zero.1 h with g | g
  · exact absurd g (Int.pow_ne_zero (by decide))
  · omega

theorem pt_at {s i : Nat} (hi : i < n) : (ptOf n p s).getD i 0 = sgI (det n (mAt (colL n p.1 s))) * (solveL n (colL n p.1 s) p.2).getD i 0 := by
  have h1 : i < (solveL n (colL n p.1 s) p.2).length := by rw [solveL_len]; exact hi
  have h2 : i < (ptOf n p s).length := by rw [ptOf_len]; exact hi
  rw [atD h1, atD h2]
  simp [ptOf, pointL]

/-- The equations of a set, with the number of z and that of w. -/
theorem pt_row {s r : Nat} (hr : r < n) : (if s.testBit r then 0 else (ptOf n p s).getD r 0) - sumTo n (fun c => mAt p.1 r c * (if s.testBit c then (ptOf n p s).getD c 0 else 0)) = p.2.getD r 0 * ((det n (mAt (colL n p.1 s))).natAbs : Int) := by
  have h := solve_row (q := p.2) (colL_sq n p.1 s) hr
  have e : sumTo n (fun c => mAt (colL n p.1 s) r c * (ptOf n p s).getD c 0) = p.2.getD r 0 * ((det n (mAt (colL n p.1 s))).natAbs : Int) := by
    rw [← sgI_mul, Int.mul_left_comm, ← h, ← sumTo_mul]
    refine sumTo_congr fun c hc => ?_
    rw [pt_at hc]
    ac_rfl
  rw [← e]
  have e2 : sumTo n (fun c => mAt (colL n p.1 s) r c * (ptOf n p s).getD c 0) = sumTo n fun c => -(mAt p.1 r c * (if s.testBit c then (ptOf n p s).getD c 0 else 0)) + if c = r then (if s.testBit r then 0 else (ptOf n p s).getD r 0) else 0 := sumTo_congr fun c hc => by
    rw [colL_at hr hc]
    unfold colE
    by_cases g : c = r
    · subst g
      cases s.testBit c <;> simp [Int.neg_mul]
    · rw [if_neg g]
      cases s.testBit c <;> simp [Int.neg_mul, show ¬ r = c from fun e => g e.symm]
  rw [e2, sumTo_add, sumTo_neg, sumTo_one hr fun i _ hi => if_neg hi, if_pos rfl]
  omega

theorem P_diff (hP : IsP n p.1) {s t : Nat} (hs : s < 2 ^ n) (ht : t < 2 ^ n) (h : ∀ i, i < n → s.testBit i = t.testBit i ∨ 0 ≤ (ptOf n p s).getD i 0 * (ptOf n p t).getD i 0) :
    ∀ i, i < n → ((det n (mAt (colL n p.1 t))).natAbs : Int) * (if s.testBit i then (ptOf n p s).getD i 0 else 0) + -((det n (mAt (colL n p.1 s))).natAbs : Int) * (if t.testBit i then (ptOf n p t).getD i 0 else 0) = 0 ∧
      ((det n (mAt (colL n p.1 t))).natAbs : Int) * (if s.testBit i then 0 else (ptOf n p s).getD i 0) + -((det n (mAt (colL n p.1 s))).natAbs : Int) * (if t.testBit i then 0 else (ptOf n p t).getD i 0) = 0 := by
  have hDs := P_det hP hs
  have hDt := P_det hP ht
  have rs := fun r (hr : r < n) => pt_row (p := p) (s := s) hr
  have rt := fun r (hr : r < n) => pt_row (p := p) (s := t) hr
  generalize hds : ((det n (mAt (colL n p.1 s))).natAbs : Int) = ds at *
  generalize hdt : ((det n (mAt (colL n p.1 t))).natAbs : Int) = dt at *
  have pds : 0 < ds := by omega
  have pdt : 0 < dt := by omega
  generalize ptOf n p s = P at *
  generalize ptOf n p t = T at *
  -- the difference of the two
  obtain ⟨z, hz⟩ : ∃ z : Nat → Int, ∀ i, z i = dt * (if s.testBit i then P.getD i 0 else 0) + -ds * (if t.testBit i then T.getD i 0 else 0) := ⟨_, fun _ => rfl⟩
  have hw : ∀ i, i < n → (sumTo n fun c => mAt p.1 i c * z c) = dt * (if s.testBit i then 0 else P.getD i 0) + -ds * (if t.testBit i then 0 else T.getD i 0) := fun i hi => by
    have e : (sumTo n fun c => mAt p.1 i c * z c) = dt * sumTo n (fun c => mAt p.1 i c * (if s.testBit c then P.getD c 0 else 0)) + -ds * sumTo n (fun c => mAt p.1 i c * (if t.testBit c then T.getD c 0 else 0)) := by
      rw [← sumTo_mul, ← sumTo_mul, ← sumTo_add]
      refine sumTo_congr fun c _ => ?_
      rw [hz, Int.mul_add]
      congr 1 <;> ac_rfl
    have k1 := rs i hi
    have k2 := rt i hi
    rw [e]
    generalize sumTo n (fun c => mAt p.1 i c * (if s.testBit c then P.getD c 0 else 0)) = X at *
    generalize sumTo n (fun c => mAt p.1 i c * (if t.testBit c then T.getD c 0 else 0)) = Y at *
    generalize (if s.testBit i then 0 else P.getD i 0) = u at *
    generalize (if t.testBit i then 0 else T.getD i 0) = v at *
    have k1 : X = u - p.2.getD i 0 * ds := by omega
    have k2 : Y = v - p.2.getD i 0 * dt := by omega
    rw [k1, k2, Int.mul_sub, Int.neg_mul, Int.neg_mul, Int.mul_sub]
    have : dt * (p.2.getD i 0 * ds) = ds * (p.2.getD i 0 * dt) := by ac_rfl
    omega
  have hneg : ∀ i, i < n → z i * (sumTo n fun c => mAt p.1 i c * z c) ≤ 0 := fun i hi => by
    rw [hw i hi, hz]
    have hd : 0 < ds * dt := Int.mul_pos pds pdt
    have h := h i hi
    generalize P.getD i 0 = x at *
    generalize T.getD i 0 = y at *
    have h1 : ∀ u v : Int, -ds * u * (dt * v) = -(ds * dt * (v * u)) := fun u v => by
      rw [Int.neg_mul, Int.neg_mul]
      congr 1
      ac_rfl
    have h2 : ∀ u v : Int, dt * v * (-ds * u) = -(ds * dt * (v * u)) := fun u v => by rw [Int.mul_comm, h1]
    rcases h with e | e
    · rw [e]
      cases t.testBit i <;> simp
    · have k := Int.mul_nonneg (Int.le_of_lt hd) e
      cases s.testBit i <;> cases t.testBit i <;> simp only [Bool.false_eq_true, if_true, if_false, Int.mul_zero, Int.zero_mul, Int.add_zero, Int.zero_add, Int.le_refl, h1, h2] <;> omega
  have h0 := P_zero hP hneg
  have w0 : ∀ i, i < n → dt * (if s.testBit i then 0 else P.getD i 0) + -ds * (if t.testBit i then 0 else T.getD i 0) = 0 := fun i hi => by
    rw [← hw i hi]
    exact sumTo_zero fun c hc => by rw [h0 c hc, Int.mul_zero]
  intro i hi
  have a := h0 i hi
  rw [hz] at a
  exact ⟨a, w0 i hi⟩

/-- Two sets whose numbers nowhere exchange signs have the same point. -/
theorem P_two (hP : IsP n p.1) {s t : Nat} (hs : s < 2 ^ n) (ht : t < 2 ^ n) (h : ∀ i, i < n → s.testBit i = t.testBit i ∨ 0 ≤ (ptOf n p s).getD i 0 * (ptOf n p t).getD i 0) :
    ∀ i, i < n → s.testBit i ≠ t.testBit i → (ptOf n p s).getD i 0 = 0 ∧ (ptOf n p t).getD i 0 = 0 := fun i hi hne => by
  obtain ⟨a, b⟩ := P_diff hP hs ht h i hi
  have hDs := P_det hP hs
  have hDt := P_det hP ht
  generalize hds : ((det n (mAt (colL n p.1 s))).natAbs : Int) = ds at *
  generalize hdt : ((det n (mAt (colL n p.1 t))).natAbs : Int) = dt at *
  have pds : 0 < ds := by omega
  have pdt : 0 < dt := by omega
  generalize (ptOf n p s).getD i 0 = x at *
  generalize (ptOf n p t).getD i 0 = y at *
  have z1 : ∀ y, dt * y = 0 → y = 0 := fun y hy => (Int.mul_eq_zero.1 hy).elim (fun g => by omega) id
  have z2 : ∀ y, -ds * y = 0 → y = 0 := fun y hy => (Int.mul_eq_zero.1 hy).elim (fun g => by omega) id
  cases hs1 : s.testBit i <;> cases ht1 : t.testBit i <;> simp only [hs1, ht1, Bool.false_eq_true, if_true, if_false, Int.mul_zero, Int.add_zero, Int.zero_add] at a b hne
  · exact absurd rfl hne
  · exact ⟨z1 _ b, z2 _ a⟩
  · exact ⟨z1 _ a, z2 _ b⟩
  · exact absurd rfl hne

/-- Two covering sets: where they agree the numbers are the same, but for the determinants. -/
theorem P_like (hP : IsP n p.1) {s t : Nat} (hs : s < 2 ^ n) (ht : t < 2 ^ n) (h1 : ∀ i, i < n → 0 ≤ (ptOf n p s).getD i 0) (h2 : ∀ i, i < n → 0 ≤ (ptOf n p t).getD i 0) :
    ∀ i, i < n → s.testBit i = t.testBit i → (ptOf n p s).getD i 0 * ((det n (mAt (colL n p.1 t))).natAbs : Int) = (ptOf n p t).getD i 0 * ((det n (mAt (colL n p.1 s))).natAbs : Int) := fun i hi he => by
  obtain ⟨a, b⟩ := P_diff hP hs ht (fun i hi => .inr (Int.mul_nonneg (h1 i hi) (h2 i hi))) i hi
  rw [he] at a b
  rw [Int.mul_comm ((ptOf n p s).getD i 0), Int.mul_comm ((ptOf n p t).getD i 0)]
  generalize (ptOf n p s).getD i 0 = x at *
  generalize (ptOf n p t).getD i 0 = y at *
  rw [Int.neg_mul] at a b
  cases ht1 : t.testBit i <;> simp only [ht1, Bool.false_eq_true, if_true, if_false] at a b <;> omega

/-- From each set some numbers ahead can be made not less than 0, those behind staying where they are. -/
theorem P_step (hP : IsP n p.1) : ∀ k, k ≤ n → ∀ s, s < 2 ^ n → ∃ t, t < 2 ^ n ∧ (∀ c, k ≤ c → t.testBit c = s.testBit c) ∧ ∀ i, i < k → 0 ≤ (ptOf n p t).getD i 0
  | 0, _, s, hs => ⟨s, hs, fun _ _ => rfl, fun i hi => by omega⟩
  | k + 1, hk, s, hs => by
    obtain ⟨t1, a1, b1, c1⟩ := P_step hP k (by omega) s hs
    by_cases h1 : 0 ≤ (ptOf n p t1).getD k 0
    · exact ⟨t1, a1, fun c hc => b1 c (by omega), fun i hi => by
        by_cases e : i = k
        · subst e; exact h1
        · exact c1 i (by omega)⟩
    · obtain ⟨u, a2, b2, c2⟩ := bit_put a1 (show k < n by omega) (!t1.testBit k)
      obtain ⟨t3, a3, b3, c3⟩ := P_step hP k (by omega) u a2
      have hk3 : t3.testBit k ≠ t1.testBit k := by
        rw [b3 k (Nat.le_refl k), b2]
        cases t1.testBit k <;> decide
      refine ⟨t3, a3, fun c hc => by rw [b3 c (by omega), c2 c (by omega), b1 c (by omega)], fun i hi => ?_⟩
      by_cases e : i = k
      · subst e
        apply Classical.byContradiction
        intro hn
        have := P_two hP a1 a3 (fun j hj => ?_) i (by omega) fun g => hk3 g.symm
        · omega
        · rcases Nat.lt_trichotomy j i with g | g | g
          · exact .inr (Int.mul_nonneg (c1 j g) (c3 j g))
          · subst g
            exact .inr (Int.le_of_lt (Int.mul_pos_of_neg_of_neg (by omega) (by omega)))
          · exact .inl (by rw [b3 j (by omega), c2 j (by omega)])
      · exact c3 i (by omega)

/-- There is a set whose point has no number less than 0. -/
theorem P_some (hP : IsP n p.1) : ∃ s, s < 2 ^ n ∧ ∀ i, i < n → 0 ≤ (ptOf n p s).getD i 0 := by
  obtain ⟨t, h1, _, h3⟩ := P_step hP n (Nat.le_refl n) 0 (Nat.pow_pos (by decide))
  exact ⟨t, h1, h3⟩

/-- Two such sets differ only where both numbers are 0. -/
theorem P_only (hP : IsP n p.1) {s t : Nat} (hs : s < 2 ^ n) (ht : t < 2 ^ n) (h1 : ∀ i, i < n → 0 ≤ (ptOf n p s).getD i 0) (h2 : ∀ i, i < n → 0 ≤ (ptOf n p t).getD i 0) :
    ∀ i, i < n → s.testBit i ≠ t.testBit i → (ptOf n p s).getD i 0 = 0 ∧ (ptOf n p t).getD i 0 = 0 := P_two hP hs ht fun i hi => .inr (Int.mul_nonneg (h1 i hi) (h2 i hi))

end
end Go.Ab
/-! The rule of the least index ends solved where all principal minors are greater than 0; dominant matrices have such minors. No program here. -/
namespace Go.Ab

section
variable {n : Nat} {p : List (List Int) × List Int}

theorem exF_first (l : List Int) : ∀ k, exA l k ≠ 0 → ∃ m, m < k ∧ exF l k = (m : Int) ∧ l.getD m 0 < 0 ∧ ∀ i, i < m → 0 ≤ l.getD i 0
  | 0, h => absurd rfl h
  | k + 1, h => by
    rcases ex_inv l k with ⟨h1, h2, _, _, h5⟩ | ⟨h1, h2, _, _, _⟩
    · by_cases hn : l.getD k 0 < 0
      · refine ⟨k, by omega, ?_, hn, h5⟩
        simp only [exF, if_pos hn]
        rw [if_pos (by omega)]
      · simp only [exA, if_neg hn] at h
        exact absurd h1 h
    · obtain ⟨m, g1, g2, g3, g4⟩ := exF_first l k h1
      refine ⟨m, by omega, ?_, g3, g4⟩
      simp only [exF]
      by_cases hn : l.getD k 0 < 0
      · rw [if_pos hn, if_neg (by omega), g2]
      · rw [if_neg hn, g2]

/-- The rule 0 exchanges the first variable whose number is less than 0. -/
theorem ex0_first {l : List Int} (h : exV l 0 ≠ 0) : ∃ m, m < l.length ∧ exV l 0 = 2 ^ m ∧ l.getD m 0 < 0 ∧ ∀ i, i < m → 0 ≤ l.getD i 0 := by
  have h0 : exA l l.length ≠ 0 := fun g => h (exV_zero.2 g)
  obtain ⟨m, g1, g2, g3, g4⟩ := exF_first l l.length h0
  refine ⟨m, g1, ?_, g3, g4⟩
  unfold exV
  rw [if_neg h0, if_neg (by decide), if_pos rfl, g2, Int.toNat_natCast]

theorem bit_step {s m c : Nat} : (s ^^^ 2 ^ m).testBit c = (s.testBit c ^^ decide (m = c)) := by
  rw [Nat.testBit_xor, Nat.testBit_two_pow]

theorem bit_stay {s0 c : Nat} {f : Nat → Nat} {x : Nat} : ∀ d, (∀ t, x ≤ t → t < x + d → ss n p 0 s0 (t + 1) = ss n p 0 s0 t ^^^ 2 ^ f t) → (∀ t, x ≤ t → t < x + d → f t ≠ c) → (ss n p 0 s0 (x + d)).testBit c = (ss n p 0 s0 x).testBit c
  | 0, _, _ => rfl
  | d + 1, h1, h2 => by
    rw [← Nat.add_assoc, h1 (x + d) (by omega) (by omega), bit_step, bit_stay d (fun t a b => h1 t a (by omega)) fun t a b => h2 t a (by omega)]
    have := h2 (x + d) (by omega) (by omega)
    simp [this]

/-- The first time at which something is so. -/
theorem first_time {q : Nat → Prop} {x y : Nat} (h : ∃ t, x ≤ t ∧ t < y ∧ q t) : ∃ t, x ≤ t ∧ t < y ∧ q t ∧ ∀ u, x ≤ u → u < t → ¬ q u := by
  obtain ⟨t, h1, h2, h3⟩ := h
  obtain ⟨d, rfl⟩ : ∃ d, t = x + d := ⟨t - x, by omega⟩
  clear h1
  induction d using Nat.strongRecOn with
  | _ d ih =>
    by_cases g : ∃ e, e < d ∧ q (x + e)
    · obtain ⟨e, g1, g2⟩ := g
      exact ih e g1 (by omega) g2
    · exact ⟨x + d, by omega, h2, h3, fun u u1 u2 hu => g ⟨u - x, by omega, by rw [show x + (u - x) = u by omega]; exact hu⟩⟩

/-- A run that exchanges only the first k variables does not come back. -/
theorem run_new (hP : IsP n p.1) {s0 : Nat} (h0 : s0 < 2 ^ n) {f : Nat → Nat} : ∀ k, k ≤ n → ∀ i j, i < j → (∀ t, i ≤ t → t < j → f t < k ∧ ss n p 0 s0 (t + 1) = ss n p 0 s0 t ^^^ 2 ^ f t ∧ (ptOf n p (ss n p 0 s0 t)).getD (f t) 0 < 0 ∧ ∀ c, c < f t → 0 ≤ (ptOf n p (ss n p 0 s0 t)).getD c 0) → ss n p 0 s0 i ≠ ss n p 0 s0 j
  | 0, _, i, j, hij, h => by
    have := (h i (Nat.le_refl i) hij).1
    omega
  | k + 1, hk, i, j, hij, h => fun e => by
    have stay := fun (c x d : Nat) (h1 : i ≤ x) (h2 : x + d ≤ j) (h3 : ∀ t, x ≤ t → t < x + d → f t ≠ c) => bit_stay (n := n) (p := p) (s0 := s0) (c := c) (f := f) (x := x) d (fun t a b => (h t (by omega) (by omega)).2.1) h3
    by_cases hk' : ∃ t, i ≤ t ∧ t < j ∧ f t = k
    · obtain ⟨a, a1, a2, a3, a4⟩ := first_time hk'
      have ha := h a a1 a2
      have ba : (ss n p 0 s0 a).testBit k = (ss n p 0 s0 i).testBit k := by
        have := stay k i (a - i) (Nat.le_refl i) (by omega) fun t t1 t2 => a4 t t1 (by omega)
        rwa [show i + (a - i) = a by omega] at this
      have ba1 : (ss n p 0 s0 (a + 1)).testBit k = !(ss n p 0 s0 a).testBit k := by
        rw [ha.2.1, bit_step, a3]
        simp
      have hk2 : ∃ t, a + 1 ≤ t ∧ t < j ∧ f t = k := Classical.byContradiction fun hn => by
        have := stay k (a + 1) (j - (a + 1)) (by omega) (by omega) fun t t1 t2 g => hn ⟨t, t1, by omega, g⟩
        rw [show a + 1 + (j - (a + 1)) = j by omega, ← e, ba1, ba] at this
        cases hb : (ss n p 0 s0 i).testBit k <;> rw [hb] at this <;> cases this
      obtain ⟨b, b1, b2, b3, b4⟩ := first_time hk2
      have hb := h b (by omega) b2
      have bb : (ss n p 0 s0 b).testBit k = (ss n p 0 s0 (a + 1)).testBit k := by
        have := stay k (a + 1) (b - (a + 1)) (by omega) (by omega) fun t t1 t2 => b4 t t1 (by omega)
        rwa [show a + 1 + (b - (a + 1)) = b by omega] at this
      have hne : (ss n p 0 s0 a).testBit k ≠ (ss n p 0 s0 b).testBit k := by
        rw [bb, ba1]
        cases (ss n p 0 s0 a).testBit k <;> decide
      rw [a3] at ha
      rw [b3] at hb
      have := (P_two hP (ss_lt h0 a) (ss_lt h0 b) (fun c hc => ?_) k (by omega) hne).1
      · omega
      · rcases Nat.lt_trichotomy c k with g | g | g
        · exact .inr (Int.mul_nonneg (ha.2.2.2 c g) (hb.2.2.2 c g))
        · subst g
          exact .inr (Int.le_of_lt (Int.mul_pos_of_neg_of_neg ha.2.2.1 hb.2.2.1))
        · have := stay c a (b - a) a1 (by omega) fun t t1 t2 => by
            have := (h t (by omega) (by omega)).1
            omega
          rw [show a + (b - a) = b by omega] at this
          exact .inl this.symm
    · exact run_new hP h0 k (by omega) i j hij (fun t t1 t2 => by
        obtain ⟨g1, g2⟩ := h t t1 t2
        refine ⟨?_, g2⟩
        have : f t ≠ k := fun g => hk' ⟨t, t1, t2, g⟩
        omega) e

/-- The rule of the least index solves each problem whose matrix has principal minors greater than 0. -/
theorem P_run (hP : IsP n p.1) {s0 : Nat} (h0 : s0 < 2 ^ n) : ∃ k, RunEnd n p 0 s0 k 0 := by
  obtain ⟨k, e, h1, h2⟩ := run_exists (n := n) (p := p) (rule := 0) h0
  refine ⟨k, h1, ?_⟩
  have hD : ∀ j, det n (mAt (colL n p.1 (ss n p 0 s0 j))) ≠ 0 := fun j => P_det hP (ss_lt h0 j)
  have hv : ∀ j, j < k → exV (ptOf n p (ss n p 0 s0 j)) 0 ≠ 0 := fun j hj g => by
    have := h1 j hj
    unfold cls at this
    rw [if_neg (hD j), if_pos g] at this
    split at this <;> cases this
  have hnew : ss n p 0 s0 k ∉ (List.range k).map (ss n p 0 s0) := fun hm => by
    obtain ⟨i, hi, e⟩ := List.mem_map.1 hm
    have hik : i < k := by simpa using hi
    have hex : ∀ t, ∃ m, t < k → m < n ∧ exV (ptOf n p (ss n p 0 s0 t)) 0 = 2 ^ m ∧ (ptOf n p (ss n p 0 s0 t)).getD m 0 < 0 ∧ ∀ c, c < m → 0 ≤ (ptOf n p (ss n p 0 s0 t)).getD c 0 := fun t => by
      by_cases g : t < k
      · obtain ⟨m, g1, g2⟩ := ex0_first (hv t g)
        rw [ptOf_len] at g1
        exact ⟨m, fun _ => ⟨g1, g2⟩⟩
      · exact ⟨0, fun g2 => absurd g2 g⟩
    obtain ⟨f, hf⟩ := Classical.axiomOfChoice hex
    refine run_new hP h0 (f := f) n (Nat.le_refl n) i k hik (fun t t1 t2 => ?_) e
    obtain ⟨g1, g2, g3, g4⟩ := hf t t2
    exact ⟨g1, by rw [ss, stp, g2], g3, g4⟩
  have h2' := h2
  unfold cls at h2' ⊢
  rw [if_neg (hD k), if_neg hnew] at h2' ⊢
  by_cases g : exV (ptOf n p (ss n p 0 s0 k)) 0 = 0
  · rw [if_pos g]
  · rw [if_neg g] at h2'
    cases h2'

end

/-! ### Dominant matrices -/

/-- Each number on the diagonal is greater than all others of its row together. -/
def Dom (n : Nat) (A : Mat) : Prop := ∀ i, i < n → ((nsum n fun j => if j = i then 0 else (A i j).natAbs : Nat) : Int) < A i i

end Go.Ab
