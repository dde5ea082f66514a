/- A list of one plain element written out; fractions in lowest terms that are equal crosswise. No program here. -/
import Derived.Test.YtdchibdcfdbcpaaGreatZabG8
import Derived.Test.YtdchibdcfdbcpaaGreatZabG5
import Derived.Test.YtdchibdcfdbcpaaGreatZabG9
namespace Go.Ab

section
variable {H0 H : Heap} {L : List (Atom H0.next)} {K : Post}

theorem Wi.flat {vs : List Value} {K : Heap → Prop} (hv : vs.all flatV = true) (h : K H) : W.flat vs H K := ⟨hv, h⟩

/-- One thing is let go. -/
theorem Loc.cut (h : Loc H0 L H) (i : Nat) : Loc H0 (L.eraseIdx i) H := by
  obtain ⟨le, F, h1, h2⟩ := h
  let f : Nat → Nat := fun j => if j < i then j else j + 1
  have e : ∀ j a, (L.eraseIdx i)[j]? = some a → L[f j]? = some a := fun j a hj => by
    rw [List.getElem?_eraseIdx] at hj
    simp only [f]
    split at hj
    · rename_i g; rw [if_pos g]; exact hj
    · rename_i g; rw [if_neg g]; exact hj
  refine ⟨le, fun j => F (f j), fun j a hj => h1 _ a (e j a hj), fun j k a c hjk hj hk => h2 _ _ a c ?_ (e j a hj) (e k c hk)⟩
  simp only [f]
  split <;> split <;> omega

end

/-- Fractions in lowest terms that are equal crosswise are the same. -/
theorem frac_cross {x y : Frac} (hx : 0 < x.2) (hy : 0 < y.2) (gx : Int.gcd x.1 x.2 = 1) (gy : Int.gcd y.1 y.2 = 1) : x.1 * y.2 = y.1 * x.2 ↔ x = y := by
  constructor
  · intro h
    have d1 : x.2 ∣ y.2 := by
      have : x.2 ∣ x.1 * y.2 := ⟨y.1, by rw [h, Int.mul_comm]⟩
      exact Int.natAbs_dvd_natAbs.1 (Nat.Coprime.dvd_of_dvd_mul_left (show Nat.gcd x.2.natAbs x.1.natAbs = 1 by rw [Nat.gcd_comm]; exact gx) (by rw [← Int.natAbs_mul]; exact Int.natAbs_dvd_natAbs.2 this))
    have d2 : y.2 ∣ x.2 := by
      have : y.2 ∣ y.1 * x.2 := ⟨x.1, by rw [← h, Int.mul_comm]⟩
      exact Int.natAbs_dvd_natAbs.1 (Nat.Coprime.dvd_of_dvd_mul_left (show Nat.gcd y.2.natAbs y.1.natAbs = 1 by rw [Nat.gcd_comm]; exact gy) (by rw [← Int.natAbs_mul]; exact Int.natAbs_dvd_natAbs.2 this))
    have e2 : x.2 = y.2 := Int.dvd_antisymm (by omega) (by omega) d1 d2
    have e1 : x.1 = y.1 := by
      rw [e2] at h
      exact Int.eq_of_mul_eq_mul_right (by omega) h
    exact Prod.ext e1 e2
  · rintro rfl; rfl

end Go.Ab
/-! Matrices whose principal minors are greater than 0: each right side has just one set of numbers not less than 0. No program here. -/
namespace Go.Ab

/-- All principal minors are greater than 0. -/
def IsP (n : Nat) (m : List (List Int)) : Prop := ∀ s, s < 2 ^ n → 0 < minorL n m s

/-- The columns of a set, those of the matrix itself. -/
def colP (m : List (List Int)) (s r c : Nat) : Int := if s.testBit c then mAt m r c else if r = c then 1 else 0

/-- A set with one member put or struck. -/
theorem bit_put {n s k : Nat} (hs : s < 2 ^ n) (hk : k < n) (v : Bool) : ∃ t, t < 2 ^ n ∧ t.testBit k = v ∧ ∀ c, c ≠ k → t.testBit c = s.testBit c := by
  by_cases h : s.testBit k = v
  · exact ⟨s, hs, h, fun _ _ => rfl⟩
  · refine ⟨s ^^^ 2 ^ k, Nat.xor_lt_two_pow hs (Nat.pow_lt_pow_right (by decide) hk), ?_, fun c hc => ?_⟩
    · rw [Nat.testBit_xor, Nat.testBit_two_pow]
      cases hv : v <;> cases hb : s.testBit k <;> simp_all
    · rw [Nat.testBit_xor, Nat.testBit_two_pow]
      simp [show ¬ k = c from fun e => hc e.symm]

/-- A column that is told by the columns. -/
theorem det_told {n : Nat} {A : Mat} {y : Nat → Int} {k : Nat} (hk : k < n) : det n (ucol A k fun r => sumTo n fun c => y c * A r c) = y k * det n A := by
  rw [det_col_sum hk n y fun c r => A r c, sumTo_one hk fun c hc hck => by
    rw [det_same hc hk hck fun r => by
      unfold ucol
      rw [if_pos rfl, if_neg hck], Int.mul_zero], ucol_self]

section
variable {n : Nat} {p : List (List Int) × List Int}

theorem pt_at {s i : Nat} (hi : i < n) : (ptOf n p s).getD i 0 = sgI (det n (mAt (colL n p.1 s))) * (solveL n (colL n p.1 s) p.2).getD i 0 := by
  have h1 : i < (solveL n (colL n p.1 s) p.2).length := by rw [solveL_len]; exact hi
  have h2 : i < (ptOf n p s).length := by rw [ptOf_len]; exact hi
  rw [atD h1, atD h2]
  simp [ptOf, pointL]

/-- The equations of a set, with the number of z and that of w. -/
theorem pt_row {s r : Nat} (hr : r < n) : (if s.testBit r then 0 else (ptOf n p s).getD r 0) - sumTo n (fun c => mAt p.1 r c * (if s.testBit c then (ptOf n p s).getD c 0 else 0)) = p.2.getD r 0 * ((det n (mAt (colL n p.1 s))).natAbs : Int) := by
  have h := solve_row (q := p.2) (colL_sq n p.1 s) hr
  have e : sumTo n (fun c => mAt (colL n p.1 s) r c * (ptOf n p s).getD c 0) = p.2.getD r 0 * ((det n (mAt (colL n p.1 s))).natAbs : Int) := by
    rw [← sgI_mul, Int.mul_left_comm, ← h, ← sumTo_mul]
    refine sumTo_congr fun c hc => ?_
    rw [pt_at hc]
    ac_rfl
  rw [← e]
  have e2 : sumTo n (fun c => mAt (colL n p.1 s) r c * (ptOf n p s).getD c 0) = sumTo n fun c => -(mAt p.1 r c * (if s.testBit c then (ptOf n p s).getD c 0 else 0)) + if c = r then (if s.testBit r then 0 else (ptOf n p s).getD r 0) else 0 := sumTo_congr fun c hc => by
    rw [colL_at hr hc]
    unfold colE
    by_cases g : c = r
    · subst g
      cases s.testBit c <;> simp [Int.neg_mul]
    · rw [if_neg g]
      cases s.testBit c <;> simp [Int.neg_mul, show ¬ r = c from fun e => g e.symm]
  rw [e2, sumTo_add, sumTo_neg, sumTo_one hr fun i _ hi => if_neg hi, if_pos rfl]
  omega

end
end Go.Ab

/-! Problems with their variables in another order, or with rows and variables in other units, have the same points. No program here. -/
namespace Go.Ab

theorem bits_ex (f : Nat → Bool) : ∀ n, ∃ s, s < 2 ^ n ∧ ∀ i, i < n → s.testBit i = f i
  | 0 => ⟨0, by simp, fun i hi => by omega⟩
  | n + 1 => by
    obtain ⟨s, h1, h2⟩ := bits_ex f n
    have hp : 2 ^ n < 2 ^ (n + 1) := Nat.pow_lt_pow_right (by decide) (Nat.lt_succ_self n)
    obtain ⟨t, g1, g2, g3⟩ := bit_put (n := n + 1) (s := s) (k := n) (by omega) (Nat.lt_succ_self n) (f n)
    refine ⟨t, g1, fun i hi => ?_⟩
    by_cases e : i = n
    · subst e; exact g2
    · rw [g3 i e, h2 i (by omega)]

section
variable {n : Nat} {p p' : List (List Int) × List Int} {t : Nat → Nat} {s s' : Nat}

/-- The columns in another order. -/
theorem perm_col (ht : Inj n t) (hM : ∀ i j, i < n → j < n → mAt p'.1 i j = mAt p.1 (t i) (t j)) (hs : ∀ i, i < n → s'.testBit i = s.testBit (t i)) {i j : Nat} (hi : i < n) (hj : j < n) : colE p'.1 s' i j = colE p.1 s (t i) (t j) := by
  unfold colE
  rw [hs j hj, hM i j hi hj]
  by_cases hb : s.testBit (t j) = true
  · rw [if_pos hb, if_pos hb]
  · rw [if_neg hb, if_neg hb]
    by_cases e : i = j
    · subst e; rw [if_pos rfl, if_pos rfl]
    · rw [if_neg e, if_neg fun g => e (ht i j hi hj g)]

theorem perm_det (ht : Inj n t) (htn : ∀ i, i < n → t i < n) (hM : ∀ i j, i < n → j < n → mAt p'.1 i j = mAt p.1 (t i) (t j)) (hs : ∀ i, i < n → s'.testBit i = s.testBit (t i)) : det n (mAt (colL n p'.1 s')) = det n (mAt (colL n p.1 s)) := by
  rw [← det_perm n (Nat.le_refl n) (mAt (colL n p.1 s)) t ht htn fun i h1 h2 => by omega]
  refine det_congr fun i j hi hj => ?_
  rw [colL_at hi hj, colL_at (htn i hi) (htn j hj), perm_col ht hM hs hi hj]

theorem perm_solve (ht : Inj n t) (htn : ∀ i, i < n → t i < n) (hM : ∀ i j, i < n → j < n → mAt p'.1 i j = mAt p.1 (t i) (t j)) (hq : ∀ i, i < n → p'.2.getD i 0 = p.2.getD (t i) 0) (hs : ∀ i, i < n → s'.testBit i = s.testBit (t i)) {i : Nat} (hi : i < n) :
    (solveL n (colL n p'.1 s') p'.2).getD i 0 = (solveL n (colL n p.1 s) p.2).getD (t i) 0 := by
  rw [atD (by rw [solveL_len]; exact hi), atD (by rw [solveL_len]; exact htn i hi), solveL_at, solveL_at,
    ← det_perm n (Nat.le_refl n) (mAt (putCol (t i) p.2 (colL n p.1 s))) t ht htn fun i h1 h2 => by omega]
  refine det_congr fun r c hr hc => ?_
  rw [putCol_at (colL_sq n p'.1 s') hr hc, putCol_at (colL_sq n p.1 s) (htn r hr) (htn c hc)]
  by_cases e : c = i
  · subst e
    rw [if_pos rfl, if_pos rfl, hq r hr]
  · rw [if_neg e, if_neg fun g => e (ht c i hc hi g), colL_at hr hc, colL_at (htn r hr) (htn c hc), perm_col ht hM hs hr hc]

/-- The points in another order. -/
theorem perm_pt (ht : Inj n t) (htn : ∀ i, i < n → t i < n) (hM : ∀ i j, i < n → j < n → mAt p'.1 i j = mAt p.1 (t i) (t j)) (hq : ∀ i, i < n → p'.2.getD i 0 = p.2.getD (t i) 0) (hs : ∀ i, i < n → s'.testBit i = s.testBit (t i)) {i : Nat} (hi : i < n) :
    (ptOf n p' s').getD i 0 = (ptOf n p s).getD (t i) 0 := by
  rw [pt_at hi, pt_at (htn i hi), perm_det ht htn hM hs, perm_solve ht htn hM hq hs hi]

/-- Numbers that fulfil equations are the only ones. -/
theorem solve_told {rows : List (List Int)} {q : List Int} {y : Nat → Int} {d : Int} (hs : Sq n rows) (h : ∀ r, r < n → sumTo n (fun c => mAt rows r c * y c) = q.getD r 0 * d) {k : Nat} (hk : k < n) : (solveL n rows q).getD k 0 * d = y k * det n (mAt rows) := by
  have e0 : det n (mAt (putCol k q rows)) * d = det n (ucol (mAt rows) k fun r => sumTo n fun c => y c * mAt rows r c) := by
    have h1 := det_lin (n := n) (A := mAt rows) hk d 0 (fun r => q.getD r 0) (fun _ => 0)
    simp only [Int.zero_mul, Int.add_zero] at h1
    have h2 : det n (mAt (putCol k q rows)) = det n (ucol (mAt rows) k fun r => q.getD r 0) := det_congr fun r c hr hc => by
      rw [putCol_at hs hr hc]
      rfl
    rw [h2, Int.mul_comm, ← h1]
    refine det_congr fun r c hr hc => ?_
    unfold ucol
    dsimp only
    split
    · rw [Int.mul_comm, ← h r hr]
      exact sumTo_congr fun c _ => Int.mul_comm _ _
    · rfl
  rw [atD (by rw [solveL_len]; exact hk), solveL_at, e0, det_told hk]

/-- Rows by numbers r, variables by numbers c: the columns of a set go with c or with r. -/
theorem unit_det {r c : Nat → Int} (hM : ∀ i j, i < n → j < n → mAt p'.1 i j * c j = r i * mAt p.1 i j) (s : Nat) :
    det n (mAt (colL n p'.1 s)) * prodI (fun j => if s.testBit j then c j else r j) n = prodI r n * det n (mAt (colL n p.1 s)) := by
  have h1 := det_scale (n := n) (s := mAt (colL n p'.1 s)) (B := fun j => if s.testBit j then c j else r j) n (Nat.le_refl n)
  have h2 := det_scaleR (n := n) (s := mAt (colL n p.1 s)) (B := r) (m := n) (Nat.le_refl n)
  rw [Int.mul_comm, ← h1, ← h2]
  refine det_congr fun i j hi hj => ?_
  rw [if_pos hj, if_pos hi, colL_at hi hj, colL_at hi hj]
  unfold colE
  by_cases hb : s.testBit j = true
  · rw [if_pos hb, if_pos hb, if_pos hb, Int.mul_neg, Int.mul_neg, Int.mul_comm, hM i j hi hj]
  · rw [if_neg hb, if_neg hb, if_neg hb]
    by_cases e : i = j
    · subst e; rfl
    · rw [if_neg e]; simp

theorem prodI_pos {B : Nat → Int} : ∀ {n : Nat}, (∀ i, i < n → 0 < B i) → 0 < prodI B n
  | 0, _ => (by decide : (0 : Int) < 1)
  | n + 1, h => Int.mul_pos (prodI_pos fun i hi => h i (by omega)) (h n (by omega))

/-- The points in other units. -/
theorem unit_pt {r c : Nat → Int} (hr : ∀ i, i < n → 0 < r i) (hc : ∀ i, i < n → 0 < c i) (hM : ∀ i j, i < n → j < n → mAt p'.1 i j * c j = r i * mAt p.1 i j) (hq : ∀ i, i < n → p'.2.getD i 0 = r i * p.2.getD i 0) (s : Nat) {k : Nat} (hk : k < n) :
    (ptOf n p' s).getD k 0 * ((det n (mAt (colL n p.1 s))).natAbs : Int) = (if s.testBit k then c k else r k) * (ptOf n p s).getD k 0 * ((det n (mAt (colL n p'.1 s))).natAbs : Int) ∧ (det n (mAt (colL n p'.1 s)) = 0 ↔ det n (mAt (colL n p.1 s)) = 0) := by
  have hd := unit_det (n := n) (p := p) (p' := p') hM s
  have g1 : 0 < prodI (fun j => if s.testBit j then c j else r j) n := prodI_pos fun i hi => by
    by_cases hb : s.testBit i = true
    · rw [if_pos hb]; exact hc i hi
    · rw [if_neg hb]; exact hr i hi
  have g2 : 0 < prodI r n := prodI_pos hr
  have row : ∀ i, i < n → sumTo n (fun j => mAt (colL n p'.1 s) i j * ((if s.testBit j then c j else r j) * (solveL n (colL n p.1 s) p.2).getD j 0)) = p'.2.getD i 0 * det n (mAt (colL n p.1 s)) := fun i hi => by
    rw [hq i hi, Int.mul_assoc, ← solve_row (q := p.2) (colL_sq n p.1 s) hi, ← sumTo_mul]
    refine sumTo_congr fun j hj => ?_
    rw [← Int.mul_assoc, ← Int.mul_assoc]
    congr 1
    rw [colL_at hi hj, colL_at hi hj]
    unfold colE
    by_cases hb : s.testBit j = true
    · rw [if_pos hb, if_pos hb, if_pos hb, Int.neg_mul, Int.mul_neg, hM i j hi hj]
    · rw [if_neg hb, if_neg hb, if_neg hb]
      by_cases e : i = j
      · subst e; rw [if_pos rfl, Int.mul_comm]
      · rw [if_neg e]; simp
  have hs := solve_told (colL_sq n p'.1 s) row hk
  rw [pt_at hk, pt_at hk]
  generalize prodI (fun j => if s.testBit j then c j else r j) n = G at *
  generalize prodI r n = R at *
  generalize det n (mAt (colL n p'.1 s)) = D' at *
  generalize det n (mAt (colL n p.1 s)) = D at *
  generalize (solveL n (colL n p'.1 s) p'.2).getD k 0 = x' at *
  generalize (solveL n (colL n p.1 s) p.2).getD k 0 = x at *
  generalize (if s.testBit k then c k else r k) = g at *
  refine ⟨?_, ?_⟩
  · rw [← sgI_mul D, ← sgI_mul D']
    rw [show sgI D' * x' * (sgI D * D) = sgI D' * sgI D * (x' * D) by ac_rfl, hs]
    ac_rfl
  · constructor
    · rintro rfl
      rw [Int.zero_mul] at hd
      rcases Int.mul_eq_zero.1 hd.symm with e | e
      · omega
      · exact e
    · rintro rfl
      rw [Int.mul_zero] at hd
      rcases Int.mul_eq_zero.1 hd with e | e
      · exact e
      · omega

end
end Go.Ab

/-! Two complementary solutions of a skew problem in two blocks have the same value. No program here. -/
namespace Go.Ab

def bil (n : Nat) (M : Mat) (x y : Nat → Int) : Int := sumTo n fun i => x i * sumTo n fun j => M i j * y j

theorem bil_turn {n : Nat} {M : Mat} (h : ∀ i j, i < n → j < n → M i j = -M j i) (x y : Nat → Int) : bil n M x y = -bil n M y x := by
  unfold bil
  have e1 : (sumTo n fun i => x i * sumTo n fun j => M i j * y j) = sumTo n fun i => sumTo n fun j => x i * (M i j * y j) := sumTo_congr fun i _ => sumTo_mul.symm
  rw [e1, sumTo_swap, ← sumTo_neg]
  refine sumTo_congr fun j hj => ?_
  rw [← sumTo_mul, ← sumTo_neg]
  refine sumTo_congr fun i hi => ?_
  rw [h i j hi hj, Int.neg_mul, Int.mul_neg]
  congr 1
  ac_rfl

theorem sum_zero {n : Nat} {f : Nat → Int} (h0 : ∀ i, i < n → 0 ≤ f i) (h : sumTo n f = 0) : ∀ i, i < n → f i = 0 := by
  induction n with
  | zero => intro i hi; omega
  | succ n ih =>
    have hp : 0 ≤ sumTo n f := by
      clear ih h
      have : ∀ m, m ≤ n → 0 ≤ sumTo m f := fun m => by
        induction m with
        | zero => intro _; exact Int.le_refl 0
        | succ m ihm =>
          intro hm
          have := ihm (by omega)
          have := h0 m (by omega)
          simp only [sumTo]
          omega
      exact this n (Nat.le_refl n)
    have hn := h0 n (by omega)
    simp only [sumTo] at h
    intro i hi
    by_cases e : i = n
    · subst e; omega
    · exact ih (fun j hj => h0 j (by omega)) (by omega) i (by omega)

theorem skew_dot {n : Nat} {M : Mat} {q z w : Nat → Int} {d : Int} (hd : 0 < d) (hsk : ∀ i j, i < n → j < n → M i j = -M j i) (hw : ∀ i, i < n → w i = q i * d + sumTo n fun j => M i j * z j) (hz : ∀ i, i < n → z i * w i = 0) : sumTo n (fun i => q i * z i) = 0 := by
  have h1 : sumTo n (fun i => z i * w i) = 0 := sumTo_zero hz
  have h2 : sumTo n (fun i => z i * w i) = d * sumTo n (fun i => q i * z i) + bil n M z z := by
    unfold bil
    rw [← sumTo_mul, ← sumTo_add]
    refine sumTo_congr fun i hi => ?_
    rw [hw i hi, Int.mul_add]
    congr 1
    ac_rfl
  have h3 := bil_turn hsk z z
  have h4 : d * sumTo n (fun i => q i * z i) = 0 := by omega
  exact (Int.mul_eq_zero.1 h4).elim (fun g => by omega) id

theorem skew_value {n N : Nat} {M : Mat} {q z w y v : Nat → Int} {d e : Int} (hd : 0 < d) (he : 0 < e) (hsk : ∀ i j, i < N → j < N → M i j = -M j i) (hb : ∀ i j, i < N → j < N → (i < n ↔ j < n) → M i j = 0)
    (hw : ∀ i, i < N → w i = q i * d + sumTo N fun j => M i j * z j) (hv : ∀ i, i < N → v i = q i * e + sumTo N fun j => M i j * y j)
    (hz : ∀ i, i < N → 0 ≤ z i ∧ 0 ≤ w i ∧ z i * w i = 0) (hy : ∀ i, i < N → 0 ≤ y i ∧ 0 ≤ v i ∧ y i * v i = 0) :
    e * sumTo N (fun i => if i < n then q i * z i else 0) = d * sumTo N (fun i => if i < n then q i * y i else 0) := by
  have qz := skew_dot hd hsk hw fun i hi => (hz i hi).2.2
  have qy := skew_dot he hsk hv fun i hi => (hy i hi).2.2
  -- the products of the one and the other are 0
  have h1 : sumTo N (fun i => z i * v i) = e * sumTo N (fun i => q i * z i) + bil N M z y := by
    unfold bil
    rw [← sumTo_mul, ← sumTo_add]
    refine sumTo_congr fun i hi => ?_
    rw [hv i hi, Int.mul_add]
    congr 1
    ac_rfl
  have h2 : sumTo N (fun i => y i * w i) = d * sumTo N (fun i => q i * y i) + bil N M y z := by
    unfold bil
    rw [← sumTo_mul, ← sumTo_add]
    refine sumTo_congr fun i hi => ?_
    rw [hw i hi, Int.mul_add]
    congr 1
    ac_rfl
  have h3 := bil_turn hsk z y
  have h4 : sumTo N (fun i => z i * v i + y i * w i) = 0 := by
    rw [sumTo_add, h1, h2, qz, qy, Int.mul_zero, Int.mul_zero]
    omega
  have h5 := sum_zero (fun i hi => by
    have a := Int.mul_nonneg (hz i hi).1 (hy i hi).2.1
    have b := Int.mul_nonneg (hy i hi).1 (hz i hi).2.1
    show 0 ≤ z i * v i + y i * w i
    omega) h4
  have zv : ∀ i, i < N → z i * v i = 0 := fun i hi => by
    have a := Int.mul_nonneg (hz i hi).1 (hy i hi).2.1
    have b := Int.mul_nonneg (hy i hi).1 (hz i hi).2.1
    have c : z i * v i + y i * w i = 0 := h5 i hi
    omega
  have yw : ∀ i, i < N → y i * w i = 0 := fun i hi => by
    have c : z i * v i + y i * w i = 0 := h5 i hi
    rw [zv i hi, Int.zero_add] at c
    exact c
  -- by blocks
  have k1 : sumTo N (fun i => if i < n then z i * v i else 0) = e * sumTo N (fun i => if i < n then q i * z i else 0) + sumTo N (fun i => sumTo N fun j => if i < n then z i * (M i j * y j) else 0) := by
    rw [← sumTo_mul, ← sumTo_add]
    refine sumTo_congr fun i hi => ?_
    by_cases g : i < n
    · simp only [g, if_true]
      rw [hv i hi, Int.mul_add, sumTo_mul]
      congr 1
      ac_rfl
    · simp only [g, if_false]
      rw [sumTo_zero fun _ _ => rfl]
      simp
  have k2 : sumTo N (fun j => if j < n then 0 else y j * w j) = d * sumTo N (fun j => if j < n then 0 else q j * y j) + sumTo N (fun j => sumTo N fun i => if j < n then 0 else y j * (M j i * z i)) := by
    rw [← sumTo_mul, ← sumTo_add]
    refine sumTo_congr fun i hi => ?_
    by_cases g : i < n
    · simp only [g, if_true]
      rw [sumTo_zero fun _ _ => rfl]
      simp
    · simp only [g, if_false]
      rw [hw i hi, Int.mul_add, sumTo_mul]
      congr 1
      ac_rfl
  have k3 : sumTo N (fun j => sumTo N fun i => if j < n then 0 else y j * (M j i * z i)) = -sumTo N (fun i => sumTo N fun j => if i < n then z i * (M i j * y j) else 0) := by
    rw [sumTo_swap (f := fun i j => if i < n then z i * (M i j * y j) else 0), ← sumTo_neg]
    refine sumTo_congr fun j hj => ?_
    rw [← sumTo_neg]
    refine sumTo_congr fun i hi => ?_
    by_cases gi : i < n
    · by_cases gj : j < n
      · rw [if_pos gj, if_pos gi, hb i j hi hj ⟨fun _ => gj, fun _ => gi⟩]; simp
      · rw [if_neg gj, if_pos gi, hsk j i hj hi, Int.neg_mul, Int.mul_neg]
        congr 1
        ac_rfl
    · by_cases gj : j < n
      · rw [if_pos gj, if_neg gi]; rfl
      · rw [if_neg gj, if_neg gi, hb j i hj hi ⟨fun g => absurd g gj, fun g => absurd g gi⟩]; simp
  have k4 : sumTo N (fun i => if i < n then z i * v i else 0) = 0 := sumTo_zero fun i hi => by
    by_cases g : i < n
    · rw [if_pos g]; exact zv i hi
    · rw [if_neg g]
  have k5 : sumTo N (fun j => if j < n then 0 else y j * w j) = 0 := sumTo_zero fun i hi => by
    by_cases g : i < n
    · rw [if_pos g]
    · rw [if_neg g]; exact yw i hi
  have k6 : sumTo N (fun i => q i * y i) = sumTo N (fun i => if i < n then q i * y i else 0) + sumTo N (fun j => if j < n then 0 else q j * y j) := by
    rw [← sumTo_add]
    refine sumTo_congr fun i _ => ?_
    by_cases g : i < n
    · rw [if_pos g, if_pos g, Int.add_zero]
    · rw [if_neg g, if_neg g, Int.zero_add]
  rw [qy] at k6
  rw [k4] at k1
  rw [k5, k3] at k2
  generalize sumTo N (fun i => sumTo N fun j => if i < n then z i * (M i j * y j) else 0) = B at *
  generalize sumTo N (fun i => if i < n then q i * z i else 0) = X at *
  generalize sumTo N (fun i => if i < n then q i * y i else 0) = Y at *
  generalize sumTo N (fun j => if j < n then 0 else q j * y j) = Z at *
  have : Z = -Y := by omega
  rw [this, Int.mul_neg] at k2
  omega

end Go.Ab
