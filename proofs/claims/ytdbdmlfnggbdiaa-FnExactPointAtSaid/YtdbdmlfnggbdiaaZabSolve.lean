/- Columns of sets, columns put in place, Cramer's numerators: as lists and as matrices. No program here. -/
import Derived.Test.YtdbdmlfnggbdiaaZabG7
import Derived.Test.YtdbdmlfnggbdiaaZabG8
import Derived.Test.YtdbdmlfnggbdiaaZabG5
namespace Go.Ab

def tabL (n : Nat) (f : Nat → Nat → Int) : List (List Int) := (List.range n).map fun r => (List.range n).map (f r)

theorem tabL_sq (n : Nat) (f : Nat → Nat → Int) : Sq n (tabL n f) := by
  refine ⟨by simp [tabL], fun r hr => ?_⟩
  obtain ⟨a, _, rfl⟩ := List.mem_map.1 hr
  simp

theorem tabL_get {n : Nat} (f : Nat → Nat → Int) {r : Nat} (h : r < (tabL n f).length) : (tabL n f)[r] = (List.range n).map (f r) := by simp [tabL]

theorem tabL_at {n : Nat} {f : Nat → Nat → Int} {r c : Nat} (hr : r < n) (hc : c < n) : mAt (tabL n f) r c = f r c := by
  rw [mAt_at (by rw [(tabL_sq n f).1]; exact hr) (by rw [tabL_get]; simpa using hc)]
  simp [tabL]

theorem tabL_congr {n : Nat} {f g : Nat → Nat → Int} (h : ∀ r c, r < n → c < n → f r c = g r c) : tabL n f = tabL n g := by
  unfold tabL
  refine List.map_congr_left fun r hr => List.map_congr_left fun c hc => h r c (by simpa using hr) (by simpa using hc)

/-- Rows alike at all places are the same. -/
theorem Sq.ext {n : Nat} {xs ys : List (List Int)} (h1 : Sq n xs) (h2 : Sq n ys) (h : ∀ r c, r < n → c < n → mAt xs r c = mAt ys r c) : xs = ys := by
  apply List.ext_getElem (by rw [h1.1, h2.1])
  intro r hr hr2
  have l1 := h1.2 _ (List.getElem_mem hr)
  have l2 := h2.2 _ (List.getElem_mem hr2)
  apply List.ext_getElem (by rw [l1, l2])
  intro c hc hc2
  have := h r c (by rw [← h1.1]; exact hr) (by omega)
  rwa [mAt_at hr hc, mAt_at hr2 hc2] at this

/-- A number of the columns of a set. -/
def colE (m : List (List Int)) (s r c : Nat) : Int := if s.testBit c then -(mAt m r c) else if r = c then 1 else 0
def colL (n : Nat) (m : List (List Int)) (s : Nat) : List (List Int) := tabL n (colE m s)

/-- A column put into rows. -/
def putCol (i : Nat) (col : List Int) (rows : List (List Int)) : List (List Int) := rows.mapIdx fun r row => row.set i (col.getD r 0)
def putTo (k i : Nat) (col : List Int) (rows : List (List Int)) : List (List Int) := rows.mapIdx fun r row => if r < k then row.set i (col.getD r 0) else row

theorem putTo_len (k i : Nat) (col : List Int) (rows : List (List Int)) : (putTo k i col rows).length = rows.length := by simp [putTo]
theorem putTo_zero (i : Nat) (col : List Int) (rows : List (List Int)) : putTo 0 i col rows = rows := by
  apply List.ext_getElem
  · simp [putTo]
  · intro r h1 h2; simp [putTo]
theorem putTo_all (i : Nat) (col : List Int) (rows : List (List Int)) : putTo rows.length i col rows = putCol i col rows := by
  apply List.ext_getElem
  · simp [putTo, putCol]
  · intro r h1 h2
    simp only [putTo, putCol, List.getElem_mapIdx]
    rw [putTo_len] at h1
    rw [if_pos h1]
theorem putTo_at {k i : Nat} {col : List Int} {rows : List (List Int)} (h : k < rows.length) : (putTo k i col rows)[k]'(by rw [putTo_len]; exact h) = rows[k] := by
  simp [putTo]
theorem putTo_step {k i : Nat} {col : List Int} {rows : List (List Int)} (h : k < rows.length) : (putTo k i col rows).set k (rows[k].set i (col.getD k 0)) = putTo (k + 1) i col rows := by
  apply List.ext_getElem
  · simp [putTo]
  · intro r h1 h2
    rw [List.getElem_set]
    simp only [putTo, List.getElem_mapIdx]
    by_cases e : k = r
    · subst e
      rw [if_pos rfl, if_pos (by omega)]
    · rw [if_neg e]
      by_cases g : r < k
      · rw [if_pos g, if_pos (by omega)]
      · rw [if_neg g, if_neg (by omega)]

theorem putCol_sq {n i : Nat} {col : List Int} {rows : List (List Int)} (h : Sq n rows) : Sq n (putCol i col rows) := by
  refine ⟨by simp [putCol, h.1], fun r hr => ?_⟩
  obtain ⟨a, ha, rfl⟩ := List.mem_iff_getElem.1 hr
  have ha' : a < rows.length := by simpa [putCol] using ha
  simp only [putCol, List.getElem_mapIdx, List.length_set]
  exact h.2 _ (List.getElem_mem ha')

theorem putCol_at {n i : Nat} {col : List Int} {rows : List (List Int)} (h : Sq n rows) {r c : Nat} (hr : r < n) (hc : c < n) : mAt (putCol i col rows) r c = if c = i then col.getD r 0 else mAt rows r c := by
  have hs := putCol_sq (i := i) (col := col) h
  have hr1 : r < rows.length := by rw [h.1]; exact hr
  have hr2 : r < (putCol i col rows).length := by rw [hs.1]; exact hr
  rw [mAt_at hr2 (by rw [hs.2 _ (List.getElem_mem hr2)]; exact hc), mAt_at hr1 (by rw [h.2 _ (List.getElem_mem hr1)]; exact hc)]
  simp only [putCol, List.getElem_mapIdx]
  rw [List.getElem_set]
  by_cases e : i = c
  · rw [if_pos e, if_pos e.symm]
  · rw [if_neg e, if_neg (fun g => e g.symm)]

theorem nsum_const {n B : Nat} {f : Nat → Nat} (h : ∀ i, i < n → f i ≤ B) : nsum n f ≤ n * B := by
  induction n with
  | zero => simp [nsum]
  | succ n ih =>
    have h1 := ih fun i hi => h i (by omega)
    have h2 := h n (by omega)
    simp only [nsum, Nat.succ_mul]
    omega

theorem rows_bound {n B : Nat} {A : Mat} (hn : n ≤ 5) (h : ∀ r c, r < n → c < n → (A r c).natAbs ≤ B) : ∀ i, i < n → nsum n (fun j => (A i j).natAbs) ≤ 5 * B := fun i hi =>
  Nat.le_trans (nsum_const fun j hj => h i j hi hj) (Nat.mul_le_mul_right _ hn)

theorem colE_abs {m : List (List Int)} {s r c : Nat} (h : (mAt m r c).natAbs ≤ 20) : (colE m s r c).natAbs ≤ 20 := by
  unfold colE
  split
  · omega
  · split <;> decide

theorem colL_at {n : Nat} {m : List (List Int)} {s r c : Nat} (hr : r < n) (hc : c < n) : mAt (colL n m s) r c = colE m s r c := tabL_at hr hc

theorem colL_rows {n : Nat} {m : List (List Int)} (s : Nat) (hn : n ≤ 5) (h : ∀ r c, r < n → c < n → (mAt m r c).natAbs ≤ 20) : ∀ i, i < n → nsum n (fun j => (mAt (colL n m s) i j).natAbs) ≤ 200 := fun i hi =>
  Nat.le_trans (rows_bound hn (fun r c hr hc => by rw [colL_at hr hc]; exact colE_abs (h r c hr hc)) i hi) (by decide)

/-- One column of numbers up to 100 among numbers up to 20. -/
theorem putCol_rows {n k : Nat} {col : List Int} {rows : List (List Int)} (hs : Sq n rows) (hn : n ≤ 5) (h : ∀ r c, r < n → c < n → (mAt rows r c).natAbs ≤ 20) (hc : ∀ e ∈ col, e.natAbs ≤ 100) (hk : k < n) :
    ∀ i, i < n → nsum n (fun j => (mAt (putCol k col rows) i j).natAbs) ≤ 200 := fun i hi => by
  rw [nsum_zero_at hk]
  have h1 : nsum n (fun j => if j = k then 0 else (mAt (putCol k col rows) i j).natAbs) ≤ n * 20 := nsum_const fun j hj => by
    split
    · omega
    · rename_i e
      rw [putCol_at hs hi hj, if_neg e]
      exact h i j hi hj
  have h2 : (mAt (putCol k col rows) i k).natAbs ≤ 100 := by
    rw [putCol_at hs hi hk, if_pos rfl, List.getD_eq_getElem?_getD]
    cases e : col[i]? with
    | none => simp
    | some x => exact hc x (List.mem_of_getElem? e)
  have := Nat.mul_le_mul_right 20 hn
  omega

/-- Cramer's numerators. -/
def solveL (n : Nat) (rows : List (List Int)) (right : List Int) : List Int := (List.range n).map fun i => det n (mAt (putCol i right rows))

theorem solveL_len (n : Nat) (rows : List (List Int)) (right : List Int) : (solveL n rows right).length = n := by simp [solveL]
theorem solveL_at {n : Nat} {rows : List (List Int)} {right : List Int} {i : Nat} (h : i < (solveL n rows right).length) : (solveL n rows right)[i] = det n (mAt (putCol i right rows)) := by simp [solveL]

theorem det200 {n : Nat} {A : Mat} (hn : n ≤ 5) (h : ∀ i, i < n → nsum n (fun j => (A i j).natAbs) ≤ 200) : (det n A).natAbs ≤ 320000000000 := Nat.le_trans (det_abs h) (pow200 hn)

/-- The sign of a number. -/
def sgI (x : Int) : Int := if x < 0 then -1 else if x > 0 then 1 else 0

theorem sgI_abs (x : Int) : (sgI x).natAbs ≤ 1 := by unfold sgI; split <;> (try split) <;> decide
theorem sgI_mul (x : Int) : sgI x * x = x.natAbs := by
  unfold sgI
  split
  · omega
  · split <;> omega

/-- The point of a set, times the absolute value of the determinant. -/
def pointL (n : Nat) (rows : List (List Int)) (right : List Int) : List Int := (solveL n rows right).map fun x => sgI (det n (mAt rows)) * x

/-- A column of the equations: that of z, or that of w. -/
def columnV (n : Nat) (m : List (List Int)) (ofZ : Bool) (i : Nat) : List Int := (List.range n).map fun k => if ofZ then -(mAt m k i) else if k = i then 1 else 0

/-- The columns ahead of i. -/
def colTo (n : Nat) (m : List (List Int)) (s i : Nat) : List (List Int) := tabL n fun r c => if c < i then colE m s r c else 0

theorem colTo_step {n : Nat} {m : List (List Int)} {s i : Nat} (hi : i < n) : putCol i (columnV n m (s.testBit i) i) (colTo n m s i) = colTo n m s (i + 1) := by
  refine (putCol_sq (tabL_sq n _)).ext (tabL_sq n _) fun r c hr hc => ?_
  unfold colTo
  rw [putCol_at (tabL_sq n _) hr hc, tabL_at hr hc, tabL_at hr hc]
  by_cases e : c = i
  · subst e
    rw [if_pos rfl, if_pos (by omega)]
    simp [columnV, List.getD_eq_getElem?_getD, hr, colE]
  · rw [if_neg e]
    by_cases g : c < i
    · rw [if_pos g, if_pos (by omega)]
    · rw [if_neg g, if_neg (by omega)]

theorem colTo_all (n : Nat) (m : List (List Int)) (s : Nat) : colTo n m s n = colL n m s := tabL_congr fun r c _ hc => by rw [if_pos hc]

theorem frac_sign {x d : Int} (h : d ≠ 0) : (0 ≤ (frac x d).1 ↔ 0 ≤ sgI d * x) ∧ (0 < (frac x d).1 ↔ 0 < sgI d * x) := by
  have hg := gcd_pos (n := x) h
  obtain ⟨j, hj⟩ := Int.gcd_dvd_left x d
  have h2 : x / (Int.gcd x d : Int) = j := by
    conv => lhs; lhs; rw [hj]
    rw [Int.mul_ediv_cancel_left _ (by omega)]
  have hp : ∀ g : Int, 0 < g → (0 ≤ g * j ↔ 0 ≤ j) ∧ (0 < g * j ↔ 0 < j) ∧ (g * j ≤ 0 ↔ j ≤ 0) ∧ (g * j < 0 ↔ j < 0) := fun g hg => by
    rcases Int.lt_trichotomy j 0 with hj | hj | hj
    · have := Int.mul_neg_of_pos_of_neg hg hj
      omega
    · subst hj; simp
    · have := Int.mul_pos hg hj
      omega
  have h3 := hp (Int.gcd x d : Int) (by omega)
  rw [← hj] at h3
  unfold frac sgI
  by_cases hd : d < 0
  · rw [if_pos hd, if_pos hd, h2]
    simp only
    omega
  · rw [if_neg hd, if_neg hd, if_pos (by omega), h2]
    simp only
    omega

theorem take_all {α : Type} {f : α → Bool} {l : List α} {i : Nat} (h : i < l.length) : (l.take (i + 1)).all f = ((l.take i).all f && f l[i]) := by
  rw [List.take_succ_eq_append_getElem h, List.all_append]
  simp

end Go.Ab
