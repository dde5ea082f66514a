/- Cover numbers: the plain law. No condition. -/
import Derived.Test.YthfcodelpebjcaaGreatCV1
import Derived.Test.YthfcodelpebjcaaGreatM1
import Derived.Test.YthfcodelpebjcaaGreatZabG9
namespace Go.Proofs.YthfcodelpebjcaaGreat
open Go.Ab

/-- The right side for a code: its digits less k. -/
def vecL (side : Nat) (k : Int) : Nat → Nat → List Int
  | 0, _ => []
  | n + 1, t => ((t % side : Nat) - k) :: vecL side k n (t / side)

theorem vecL_len (side : Nat) (k : Int) : ∀ n t, (vecL side k n t).length = n
  | 0, _ => rfl
  | n + 1, t => by simp only [vecL, List.length_cons, vecL_len side k n]

theorem vecL_abs {side : Nat} {k : Int} (hs : (side : Int) = 2 * k + 1) (hk : 1 ≤ k ∧ k ≤ 2) : ∀ n t, ∀ e ∈ vecL side k n t, e.natAbs ≤ 2 ∧ -k ≤ e ∧ e ≤ k
  | 0, _ => by simp [vecL]
  | n + 1, t => fun e he => by
    simp only [vecL, List.mem_cons] at he
    rcases he with rfl | he
    · have : t % side < side := Nat.mod_lt _ (by omega)
      omega
    · exact vecL_abs hs hk n _ e he

theorem vecL_zero {side : Nat} {k : Int} (hs : 0 < side) : ∀ n, vecL side k n 0 = List.replicate n (-k)
  | 0 => rfl
  | n + 1 => by
    simp only [vecL, Nat.zero_mod, Nat.zero_div, List.replicate_succ, vecL_zero hs n]
    simp

/-- The next code: the first digit that is not the greatest one grows, those ahead of it are the least. -/
theorem vecL_next {side : Nat} {k : Int} (hs : (side : Int) = 2 * k + 1) (hk : 1 ≤ k) : ∀ (n t i : Nat) (hi : i < n), (∀ j (hj : j < n), j < i → (vecL side k n t)[j]'(by rw [vecL_len]; exact hj) = k) → (vecL side k n t)[i]'(by rw [vecL_len]; exact hi) ≠ k →
    vecL side k n (t + 1) = List.replicate i (-k) ++ ((vecL side k n t)[i]'(by rw [vecL_len]; exact hi) + 1) :: (vecL side k n t).drop (i + 1)
  | 0, _, _, hi, _, _ => by omega
  | n + 1, t, 0, _, _, hne => by
    simp only [vecL, List.getElem_cons_zero] at hne ⊢
    have hlt : t % side < side := Nat.mod_lt _ (by omega)
    have h1 : t % side + 1 < side := by omega
    have e := Nat.div_add_mod t side
    have hm : (t + 1) % side = t % side + 1 := by
      rw [← e, Nat.add_assoc, Nat.mul_add_mod, Nat.mul_add_mod, Nat.mod_mod]
      exact Nat.mod_eq_of_lt h1
    have hd : (t + 1) / side = t / side := by
      rw [show t + 1 = side * (t / side) + (t % side + 1) by omega, Nat.mul_add_div (by omega), Nat.div_eq_of_lt h1]
      omega
    rw [hm, hd]
    simp only [List.replicate_zero, List.nil_append, List.drop_succ_cons, List.drop_zero]
    congr 1
    omega
  | n + 1, t, i + 1, hi, hall, hne => by
    have h0 := hall 0 (by omega) (by omega)
    simp only [vecL, List.getElem_cons_zero] at h0
    have e := Nat.div_add_mod t side
    have hme : t % side = side - 1 := by omega
    have hm : (t + 1) % side = 0 := by
      rw [show t + 1 = side * (t / side + 1) by rw [Nat.mul_add]; omega]
      exact Nat.mul_mod_right _ _
    have hd : (t + 1) / side = t / side + 1 := by
      rw [show t + 1 = side * (t / side + 1) by rw [Nat.mul_add]; omega]
      exact Nat.mul_div_cancel_left _ (by omega)
    have ih := vecL_next hs hk n (t / side) i (by omega) (fun j hj hji => by
      have := hall (j + 1) (by omega) (by omega)
      simpa [vecL] using this) (by simpa [vecL] using hne)
    simp only [vecL, hm, hd, ih]
    simp [List.replicate_succ]

/-- All digits are the greatest ones: it is the last code. -/
theorem vecL_last {side : Nat} {k : Int} (hs : (side : Int) = 2 * k + 1) (hk : 1 ≤ k) : ∀ (n t : Nat), t < side ^ n → (∀ e ∈ vecL side k n t, e = k) → t + 1 = side ^ n
  | 0, t, ht, _ => by simp at ht; subst ht; rfl
  | n + 1, t, ht, h => by
    have h0 := h (((t % side : Nat) : Int) - k) (by simp [vecL])
    have hlt : t % side < side := Nat.mod_lt _ (by omega)
    have e := Nat.div_add_mod t side
    have hq : t / side < side ^ n := by
      rw [Nat.div_lt_iff_lt_mul (by omega)]
      rw [Nat.pow_succ] at ht
      exact ht
    have ih := vecL_last hs hk n (t / side) hq fun x hx => h x (by simp [vecL, hx])
    have hme : t % side = side - 1 := by omega
    rw [Nat.pow_succ, ← ih, Nat.add_mul, Nat.mul_comm (t / side) side]
    omega

theorem vecL_notlast {side : Nat} {k : Int} (hs : (side : Int) = 2 * k + 1) (hk : 1 ≤ k) : ∀ (n t : Nat), (∃ e ∈ vecL side k n t, e ≠ k) → t < side ^ n → t + 1 < side ^ n
  | 0, t, h, _ => by obtain ⟨e, he, _⟩ := h; simp [vecL] at he
  | n + 1, t, h, ht => by
    have e := Nat.div_add_mod t side
    have hlt : t % side < side := Nat.mod_lt _ (by omega)
    have hq : t / side < side ^ n := by
      rw [Nat.div_lt_iff_lt_mul (by omega)]
      rw [Nat.pow_succ] at ht
      exact ht
    rw [Nat.pow_succ, Nat.mul_comm]
    by_cases hm : t % side + 1 < side
    · have := Nat.mul_le_mul_left side (show t / side + 1 ≤ side ^ n by omega)
      rw [Nat.mul_add] at this
      omega
    · have h0 : ∃ x ∈ vecL side k n (t / side), x ≠ k := by
        obtain ⟨x, hx, hne⟩ := h
        simp only [vecL, List.mem_cons] at hx
        rcases hx with rfl | hx
        · omega
        · exact ⟨x, hx, hne⟩
      have := vecL_notlast hs hk n _ h0 hq
      have := Nat.mul_le_mul_left side (show t / side + 1 + 1 ≤ side ^ n by omega)
      rw [Nat.mul_add, Nat.mul_add] at this
      omega

/-- How many sets cover the right side of a code. -/
def cntC (n : Nat) (m : List (List Int)) (side : Nat) (k : Int) (c : Nat) : Nat := (covL n (m, vecL side k n c)).length

/-- How many codes ahead of t have j covers; and one more than the greatest number of covers. -/
def cnH (f : Nat → Nat) (t j : Nat) : Int := (((List.range t).filter fun c => decide (f c = j)).length : Nat)
def cnM (f : Nat → Nat) : Nat → Nat
  | 0 => 0
  | t + 1 => max (cnM f t) (f t + 1)
def cnL (f : Nat → Nat) (t len : Nat) : List Int := (List.range len).map (cnH f t)

theorem cnH_succ (f : Nat → Nat) (t j : Nat) : cnH f (t + 1) j = cnH f t j + if f t = j then 1 else 0 := by
  unfold cnH
  rw [List.range_succ, List.filter_append]
  by_cases h : f t = j
  · simp [h]
  · simp [h]
theorem cnH_zero {f : Nat → Nat} {j : Nat} : ∀ {t : Nat}, cnM f t ≤ j → cnH f t j = 0
  | 0, _ => rfl
  | t + 1, h => by
    have : max (cnM f t) (f t + 1) ≤ j := h
    rw [cnH_succ, cnH_zero (by omega), if_neg (by omega)]
    rfl
theorem cnH_nonneg (f : Nat → Nat) (t j : Nat) : 0 ≤ cnH f t j := by unfold cnH; omega
theorem cnH_le (f : Nat → Nat) (t j : Nat) : cnH f t j ≤ t := by
  unfold cnH
  have := List.length_filter_le (fun c => decide (f c = j)) (List.range t)
  simp at this
  omega
theorem cnH_top {f : Nat → Nat} : ∀ {t : Nat}, 0 < t → 0 < cnM f t ∧ cnH f t (cnM f t - 1) ≠ 0
  | 0, h => by omega
  | t + 1, _ => by
    have e : cnM f (t + 1) = max (cnM f t) (f t + 1) := rfl
    refine ⟨by omega, ?_⟩
    rw [cnH_succ]
    by_cases h : f t + 1 = cnM f (t + 1)
    · rw [if_pos (by omega)]
      have := cnH_nonneg f t (cnM f (t + 1) - 1)
      omega
    · have hm : cnM f (t + 1) = cnM f t := by omega
      have ht : 0 < t := by
        cases t with
        | zero => simp [cnM] at hm
        | succ t => omega
      have := cnH_top (f := f) ht
      rw [hm, if_neg (by omega)]
      have h2 := cnH_nonneg f t (cnM f t - 1)
      omega
theorem cnM_le {f : Nat → Nat} {B : Nat} (h : ∀ c, f c ≤ B) : ∀ t, cnM f t ≤ B + 1
  | 0 => by simp [cnM]
  | t + 1 => by
    have h1 := cnM_le h t
    have h2 := h t
    show max (cnM f t) (f t + 1) ≤ B + 1
    omega
theorem cnL_len (f : Nat → Nat) (t len : Nat) : (cnL f t len).length = len := by simp [cnL]
theorem cnL_at {f : Nat → Nat} {t len j : Nat} (h : j < (cnL f t len).length) : (cnL f t len)[j] = cnH f t j := by simp [cnL]
theorem cnL_step {f : Nat → Nat} {t len : Nat} (h : f t < (cnL f t len).length) : (cnL f t len).set (f t) ((cnL f t len)[f t] + 1) = cnL f (t + 1) len := by
  rw [cnL_at h]
  unfold cnL
  refine range_set (by rw [cnH_succ, if_pos rfl]) fun j _ hj => ?_
  rw [cnH_succ, if_neg (fun e => hj e.symm), Int.add_zero]
theorem cnL_push {f : Nat → Nat} {t len : Nat} (h : cnM f t ≤ len) : cnL f t len ++ [0] = cnL f t (len + 1) := by
  unfold cnL
  rw [List.range_succ, List.map_append]
  simp [cnH_zero h]
theorem cnL_cut {f : Nat → Nat} {t len : Nat} : (cnL f t (len + 1)).take len = cnL f t len := by
  unfold cnL
  rw [List.range_succ, List.map_append]
  exact List.take_left' (by simp)

def cnRes (p : Prob) (k : Int) : List Int × Int :=
  if isProb p = true then (if inR 1 2 k = true then (cnL (cntC p.2.length p.1 (2 * k + 1).toNat k) ((2 * k + 1).toNat ^ p.2.length) (cnM (cntC p.2.length p.1 (2 * k + 1).toNat k) ((2 * k + 1).toNat ^ p.2.length)), 0) else ([], 2)) else ([], 1)

theorem cntC_le (n : Nat) (m : List (List Int)) (side : Nat) (k : Int) (c : Nat) : cntC n m side k c ≤ 2 ^ n := covTo_len _ _ _

theorem cnRes_sz (p : Prob) (k : Int) : szS (cnRes p k).1 ≤ 1048576 := by
  rw [szS_len]
  unfold cnRes
  split
  · rename_i h
    have hn := (PB.of h).n5
    have h32 := pow5 hn
    split
    · rw [cnL_len]
      have := cnM_le (f := cntC p.2.length p.1 (2 * k + 1).toNat k) (B := 32) (fun c => Nat.le_trans (cntC_le _ _ _ _ c) h32) ((2 * k + 1).toNat ^ p.2.length)
      omega
    · simp
  · simp

/-! ### Solutions are sums of those for single numbers 1 -/
def unitL (n i : Nat) : List Int := (List.range n).map fun j => if j = i then 1 else 0

theorem sumTo_same (f : Nat → Int) : ∀ n, sumTo f n = Go.Ab.sumTo n f
  | 0 => rfl
  | n + 1 => by
    show sumTo f n + f n = Go.Ab.sumTo n f + f n
    rw [sumTo_same f n]

theorem solve_sum {n : Nat} {rows : List (List Int)} {q : List Int} (hs : Sq n rows) (hq : q.length = n) {j : Nat} (hj : j < n) : (solveL n rows q).getD j 0 = Go.Ab.sumTo n fun i => q.getD i 0 * (solveL n rows (unitL n i)).getD j 0 := by
  have e1 : ∀ l : List Int, (solveL n rows l).getD j 0 = det n (ucol (mAt rows) j fun r => l.getD r 0) := fun l => by
    rw [atD (by rw [solveL_len]; exact hj), solveL_at]
    exact det_congr fun a b ha hb => by rw [putCol_at hs ha hb]; rfl
  rw [e1]
  have e2 : det n (ucol (mAt rows) j fun r => q.getD r 0) = det n (ucol (mAt rows) j fun r => Go.Ab.sumTo n fun i => q.getD i 0 * (unitL n i).getD r 0) := det_congr fun a b ha hb => by
    unfold ucol
    split
    · show q.getD a 0 = Go.Ab.sumTo n fun i => q.getD i 0 * (unitL n i).getD a 0
      rw [Go.Ab.sumTo_one ha fun i hi hne => by
        have : (unitL n i).getD a 0 = 0 := by
          simp [unitL, List.getD_eq_getElem?_getD, ha]
          exact fun e => hne e.symm
        rw [this, Int.mul_zero]]
      simp [unitL, List.getD_eq_getElem?_getD, ha]
    · rfl
  rw [e2, det_col_sum hj]
  exact Go.Ab.sumTo_congr fun i hi => by rw [e1]

/-- The rows of a set: what each number of the right side does to each number of the point. -/
def invL (n : Nat) (cols : List (List Int)) : List (List Int) := (List.range n).map fun j => (List.range n).map fun i => (pointL n cols (unitL n i)).getD j 0

theorem pointL_getD {n : Nat} {cols : List (List Int)} {q : List Int} {j : Nat} (hj : j < n) : (pointL n cols q).getD j 0 = sgI (det n (mAt cols)) * (solveL n cols q).getD j 0 := by
  have h2 := solveL_len n cols q
  have h1 : j < (pointL n cols q).length := by simp [pointL, h2]; exact hj
  rw [atD h1, atD (by omega)]
  simp [pointL]

theorem inv_dot {n : Nat} {cols : List (List Int)} {q : List Int} (hs : Sq n cols) (hq : q.length = n) {j : Nat} (hj : j < n) : dot ((List.range n).map fun i => (pointL n cols (unitL n i)).getD j 0) q = (pointL n cols q).getD j 0 := by
  unfold dot
  rw [sumTo_same, pointL_getD hj, solve_sum hs hq hj, ← Go.Ab.sumTo_mul]
  simp only [List.length_map, List.length_range]
  refine Go.Ab.sumTo_congr fun i hi => ?_
  simp only [dotF]
  rw [show ((List.range n).map fun i => (pointL n cols (unitL n i)).getD j 0).getD i 0 = (pointL n cols (unitL n i)).getD j 0 by simp [List.getD_eq_getElem?_getD, hi], pointL_getD hj]
  rw [Int.mul_assoc, Int.mul_comm ((solveL n cols (unitL n i)).getD j 0)]

theorem inv_any {n : Nat} {cols : List (List Int)} {q : List Int} (hs : Sq n cols) (hq : q.length = n) : ((invL n cols).any fun row => decide (dot row q < 0)) = !((pointL n cols q).all fun x => decide (0 ≤ x)) := by
  have hl : (pointL n cols q).length = n := by simp [pointL, solveL_len]
  rw [List.all_eq_not_any_not, Bool.not_not, Bool.eq_iff_iff, List.any_eq_true, List.any_eq_true]
  constructor
  · rintro ⟨row, hr, hd⟩
    obtain ⟨j, hj, rfl⟩ := List.mem_map.1 hr
    have hj : j < n := by simpa using hj
    rw [inv_dot hs hq hj, atD (by omega)] at hd
    exact ⟨_, List.getElem_mem (show j < (pointL n cols q).length by omega), by simp at hd ⊢; omega⟩
  · rintro ⟨x, hx, hd⟩
    obtain ⟨j, hj, rfl⟩ := List.mem_iff_getElem.1 hx
    refine ⟨_, List.mem_map.2 ⟨j, by simp; omega, rfl⟩, ?_⟩
    rw [inv_dot hs hq (by omega), atD hj]
    simp at hd ⊢
    omega

/-- The sets that have a point. -/
def detB (n : Nat) (m : List (List Int)) (s : Nat) : Bool := decide (det n (mAt (colL n m s)) ≠ 0)
def invTo (n : Nat) (m : List (List Int)) (x : Nat) : List (List (List Int)) := ((List.range x).filter (detB n m)).map fun s => invL n (colL n m s)

theorem invTo_in {n : Nat} {m : List (List Int)} {x : Nat} (h : detB n m x = true) : invTo n m (x + 1) = invTo n m x ++ [invL n (colL n m x)] := by
  unfold invTo
  rw [List.range_succ, List.filter_append, List.map_append]
  simp [h]
theorem invTo_out {n : Nat} {m : List (List Int)} {x : Nat} (h : detB n m x = false) : invTo n m (x + 1) = invTo n m x := by
  unfold invTo
  rw [List.range_succ, List.filter_append, List.map_append]
  simp [h]
theorem invTo_len (n : Nat) (m : List (List Int)) (x : Nat) : (invTo n m x).length ≤ x := by
  have := List.length_filter_le (detB n m) (List.range x)
  simpa [invTo] using this

def invB (q : List Int) (rows : List (List Int)) : Bool := !(rows.any fun row => decide (dot row q < 0))

theorem inv_count {n : Nat} {m : List (List Int)} {q : List Int} (hq : q.length = n) (x : Nat) : ((invTo n m x).filter (invB q)).length = (covTo n (m, q) x).length := by
  unfold invTo covTo
  rw [List.filter_map, List.length_map, List.length_map, List.filter_filter]
  congr 2
  funext s
  simp only [Function.comp, invB, inv_any (tabL_sq n (colE m s)) hq, detB]
  rw [show colL n m s = tabL n (colE m s) from rfl, inv_any (tabL_sq n (colE m s)) hq, Bool.not_not]
  unfold covB
  exact Bool.and_comm _ _

end Go.Proofs.YthfcodelpebjcaaGreat
