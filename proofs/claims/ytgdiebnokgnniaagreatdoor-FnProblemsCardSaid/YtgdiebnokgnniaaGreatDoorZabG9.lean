/- Columns of sets, columns put in place, Cramer's numerators: as lists and as matrices. No program here. -/
import Derived.Test.YtgdiebnokgnniaaGreatDoorZabG7
import Derived.Test.YtgdiebnokgnniaaGreatDoorZabG8
import Derived.Test.YtgdiebnokgnniaaGreatDoorZabG5
namespace Go.Ab

def tabL (n : Nat) (f : Nat → Nat → Int) : List (List Int) := (List.range n).map fun r => (List.range n).map (f r)

theorem tabL_sq (n : Nat) (f : Nat → Nat → Int) : Sq n (tabL n f) := by
  refine ⟨by simp [tabL], fun r hr => ?_⟩
  obtain ⟨a, _, rfl⟩ := List.mem_map.1 hr
  simp

theorem tabL_get {n : Nat} (f : Nat → Nat → Int) {r : Nat} (h : r < (tabL n f).length) : (tabL n f)[r] = (List.range n).map (f r) := by simp [tabL]

theorem tabL_at {n : Nat} {f : Nat → Nat → Int} {r c : Nat} (hr : r < n) (hc : c < n) : mAt (tabL n f) r c = f r c := by
  rw [mAt_at (by rw [(tabL_sq n f).1]; exact hr) (by rw [tabL_get]; simpa using hc)]
  simp [tabL]

theorem tabL_congr {n : Nat} {f g : Nat → Nat → Int} (h : ∀ r c, r < n → c < n → f r c = g r c) : tabL n f = tabL n g := by
  unfold tabL
  refine List.map_congr_left fun r hr => List.map_congr_left fun c hc => h r c (by simpa using hr) (by simpa using hc)

/-- Rows alike at all places are the same. -/
theorem Sq.ext {n : Nat} {xs ys : List (List Int)} (h1 : Sq n xs) (h2 : Sq n ys) (h : ∀ r c, r < n → c < n → mAt xs r c = mAt ys r c) : xs = ys := by
  apply List.ext_getElem (by rw [h1.1, h2.1])
  intro r hr hr2
  have l1 := h1.2 _ (List.getElem_mem hr)
  have l2 := h2.2 _ (List.getElem_mem hr2)
  apply List.ext_getElem (by rw [l1, l2])
  intro c hc hc2
  have := h r c (by rw [← h1.1]; exact hr) (by omega)
  rwa [mAt_at hr hc, mAt_at hr2 hc2] at this

/-- A number of the columns of a set. -/
def colE (m : List (List Int)) (s r c : Nat) : Int := if s.testBit c then -(mAt m r c) else if r = c then 1 else 0
def colL (n : Nat) (m : List (List Int)) (s : Nat) : List (List Int) := tabL n (colE m s)

/-- A column put into rows. -/
def putCol (i : Nat) (col : List Int) (rows : List (List Int)) : List (List Int) := rows.mapIdx fun r row => row.set i (col.getD r 0)
def putTo (k i : Nat) (col : List Int) (rows : List (List Int)) : List (List Int) := rows.mapIdx fun r row => if r < k then row.set i (col.getD r 0) else row

theorem putTo_len (k i : Nat) (col : List Int) (rows : List (List Int)) : (putTo k i col rows).length = rows.length := by simp [putTo]
theorem putTo_zero (i : Nat) (col : List Int) (rows : List (List Int)) : putTo 0 i col rows = rows := by
  apply List.ext_getElem
  · simp [putTo]
  · intro r h1 h2; simp [putTo]
theorem putTo_all (i : Nat) (col : List Int) (rows : List (List Int)) : putTo rows.length i col rows = putCol i col rows := by
  apply List.ext_getElem
  · simp [putTo, putCol]
  · intro r h1 h2
    simp only [putTo, putCol, List.getElem_mapIdx]
    rw [putTo_len] at h1
    rw [if_pos h1]
theorem putTo_at {k i : Nat} {col : List Int} {rows : List (List Int)} (h : k < rows.length) : (putTo k i col rows)[k]'(by rw [putTo_len]; exact h) = rows[k] := by
  simp [putTo]
theorem putTo_step {k i : Nat} {col : List Int} {rows : List (List Int)} (h : k < rows.length) : (putTo k i col rows).set k (rows[k].set i (col.getD k 0)) = putTo (k + 1) i col rows := by
  apply List.ext_getElem
  · simp [putTo]
  · intro r h1 h2
    rw [List.getElem_set]
    simp only [putTo, List.getElem_mapIdx]
    by_cases e : k = r
    · subst e
      rw [if_pos rfl, if_pos (by omega)]
    · rw [if_neg e]
      by_cases g : r < k
      · rw [if_pos g, if_pos (by omega)]
      · rw [if_neg g, if_neg (by omega)]

theorem putCol_sq {n i : Nat} {col : List Int} {rows : List (List Int)} (h : Sq n rows) : Sq n (putCol i col rows) := by
  refine ⟨by simp [putCol, h.1], fun r hr => ?_⟩
  obtain ⟨a, ha, rfl⟩ := List.mem_iff_getElem.1 hr
  have ha' : a < rows.length := by simpa [putCol] using ha
  simp only [putCol, List.getElem_mapIdx, List.length_set]
  exact h.2 _ (List.getElem_mem ha')

theorem putCol_at {n i : Nat} {col : List Int} {rows : List (List Int)} (h : Sq n rows) {r c : Nat} (hr : r < n) (hc : c < n) : mAt (putCol i col rows) r c = if c = i then col.getD r 0 else mAt rows r c := by
  have hs := putCol_sq (i := i) (col := col) h
  have hr1 : r < rows.length := by rw [h.1]; exact hr
  have hr2 : r < (putCol i col rows).length := by rw [hs.1]; exact hr
  rw [mAt_at hr2 (by rw [hs.2 _ (List.getElem_mem hr2)]; exact hc), mAt_at hr1 (by rw [h.2 _ (List.getElem_mem hr1)]; exact hc)]
  simp only [putCol, List.getElem_mapIdx]
  rw [List.getElem_set]
  by_cases e : i = c
  · rw [if_pos e, if_pos e.symm]
  · rw [if_neg e, if_neg (fun g => e g.symm)]

theorem nsum_const {n B : Nat} {f : Nat → Nat} (h : ∀ i, i < n → f i ≤ B) : nsum n f ≤ n * B := by
  induction n with
  | zero => simp [nsum]
  | succ n ih =>
    have h1 := ih fun i hi => h i (by omega)
    have h2 := h n (by omega)
    simp only [nsum, Nat.succ_mul]
    omega

theorem rows_bound {n B : Nat} {A : Mat} (hn : n ≤ 5) (h : ∀ r c, r < n → c < n → (A r c).natAbs ≤ B) : ∀ i, i < n → nsum n (fun j => (A i j).natAbs) ≤ 5 * B := fun i hi =>
  Nat.le_trans (nsum_const fun j hj => h i j hi hj) (Nat.mul_le_mul_right _ hn)

theorem colE_abs {m : List (List Int)} {s r c : Nat} (h : (mAt m r c).natAbs ≤ 20) : (colE m s r c).natAbs ≤ 20 := by
  unfold colE
  split
  · omega
  · split <;> decide

theorem colL_sq (n : Nat) (m : List (List Int)) (s : Nat) : Sq n (colL n m s) := tabL_sq n _
theorem colL_at {n : Nat} {m : List (List Int)} {s r c : Nat} (hr : r < n) (hc : c < n) : mAt (colL n m s) r c = colE m s r c := tabL_at hr hc

theorem colL_rows {n : Nat} {m : List (List Int)} (s : Nat) (hn : n ≤ 5) (h : ∀ r c, r < n → c < n → (mAt m r c).natAbs ≤ 20) : ∀ i, i < n → nsum n (fun j => (mAt (colL n m s) i j).natAbs) ≤ 200 := fun i hi =>
  Nat.le_trans (rows_bound hn (fun r c hr hc => by rw [colL_at hr hc]; exact colE_abs (h r c hr hc)) i hi) (by decide)

/-- One column of numbers up to 100 among numbers up to 20. -/
theorem putCol_rows {n k : Nat} {col : List Int} {rows : List (List Int)} (hs : Sq n rows) (hn : n ≤ 5) (h : ∀ r c, r < n → c < n → (mAt rows r c).natAbs ≤ 20) (hc : ∀ e ∈ col, e.natAbs ≤ 100) (hk : k < n) :
    ∀ i, i < n → nsum n (fun j => (mAt (putCol k col rows) i j).natAbs) ≤ 200 := fun i hi => by
  rw [nsum_zero_at hk]
  have h1 : nsum n (fun j => if j = k then 0 else (mAt (putCol k col rows) i j).natAbs) ≤ n * 20 := nsum_const fun j hj => by
    split
    · omega
    · rename_i e
      rw [putCol_at hs hi hj, if_neg e]
      exact h i j hi hj
  have h2 : (mAt (putCol k col rows) i k).natAbs ≤ 100 := by
    rw [putCol_at hs hi hk, if_pos rfl, List.getD_eq_getElem?_getD]
    cases e : col[i]? with
    | none => simp
    | some x => exact hc x (List.mem_of_getElem? e)
  have := Nat.mul_le_mul_right 20 hn
  omega

/-- Cramer's numerators. -/
def solveL (n : Nat) (rows : List (List Int)) (right : List Int) : List Int := (List.range n).map fun i => det n (mAt (putCol i right rows))

theorem solveL_len (n : Nat) (rows : List (List Int)) (right : List Int) : (solveL n rows right).length = n := by simp [solveL]
theorem solveL_at {n : Nat} {rows : List (List Int)} {right : List Int} {i : Nat} (h : i < (solveL n rows right).length) : (solveL n rows right)[i] = det n (mAt (putCol i right rows)) := by simp [solveL]

theorem det200 {n : Nat} {A : Mat} (hn : n ≤ 5) (h : ∀ i, i < n → nsum n (fun j => (A i j).natAbs) ≤ 200) : (det n A).natAbs ≤ 320000000000 := Nat.le_trans (det_abs h) (pow200 hn)

/-- The sign of a number. -/
def sgI (x : Int) : Int := if x < 0 then -1 else if x > 0 then 1 else 0

theorem sgI_abs (x : Int) : (sgI x).natAbs ≤ 1 := by unfold sgI; split <;> (try split) <;> decide
theorem sgI_mul (x : Int) : sgI x * x = x.natAbs := by
  unfold sgI
  split
  · omega
  · split <;> omega

/-- The point of a set, times the absolute value of the determinant. -/
def pointL (n : Nat) (rows : List (List Int)) (right : List Int) : List Int := (solveL n rows right).map fun x => sgI (det n (mAt rows)) * x

/-- A column of the equations: that of z, or that of w. -/
def columnV (n : Nat) (m : List (List Int)) (ofZ : Bool) (i : Nat) : List Int := (List.range n).map fun k => if ofZ then -(mAt m k i) else if k = i then 1 else 0

/-- The columns ahead of i. -/
def colTo (n : Nat) (m : List (List Int)) (s i : Nat) : List (List Int) := tabL n fun r c => if c < i then colE m s r c else 0

theorem colTo_step {n : Nat} {m : List (List Int)} {s i : Nat} (hi : i < n) : putCol i (columnV n m (s.testBit i) i) (colTo n m s i) = colTo n m s (i + 1) := by
  refine (putCol_sq (tabL_sq n _)).ext (tabL_sq n _) fun r c hr hc => ?_
  unfold colTo
  rw [putCol_at (tabL_sq n _) hr hc, tabL_at hr hc, tabL_at hr hc]
  by_cases e : c = i
  · subst e
    rw [if_pos rfl, if_pos (by omega)]
    simp [columnV, List.getD_eq_getElem?_getD, hr, colE]
  · rw [if_neg e]
    by_cases g : c < i
    · rw [if_pos g, if_pos (by omega)]
    · rw [if_neg g, if_neg (by omega)]

theorem colTo_all (n : Nat) (m : List (List Int)) (s : Nat) : colTo n m s n = colL n m s := tabL_congr fun r c _ hc => by rw [if_pos hc]

theorem frac_sign {x d : Int} (h : d ≠ 0) : (0 ≤ (frac x d).1 ↔ 0 ≤ sgI d * x) ∧ (0 < (frac x d).1 ↔ 0 < sgI d * x) := by
  have hg := gcd_pos (n := x) h
  obtain ⟨j, hj⟩ := Int.gcd_dvd_left x d
  have h2 : x / (Int.gcd x d : Int) = j := by
    conv => lhs; lhs; rw [hj]
    rw [Int.mul_ediv_cancel_left _ (by omega)]
  have hp : ∀ g : Int, 0 < g → (0 ≤ g * j ↔ 0 ≤ j) ∧ (0 < g * j ↔ 0 < j) ∧ (g * j ≤ 0 ↔ j ≤ 0) ∧ (g * j < 0 ↔ j < 0) := fun g hg => by
    rcases Int.lt_trichotomy j 0 with hj | hj | hj
    · have := Int.mul_neg_of_pos_of_neg hg hj
      omega
    · subst hj; simp
    · have := Int.mul_pos hg hj
      omega
  have h3 := hp (Int.gcd x d : Int) (by omega)
  rw [← hj] at h3
  unfold frac sgI
  by_cases hd : d < 0
  · rw [if_pos hd, if_pos hd, h2]
    simp only
    omega
  · rw [if_neg hd, if_neg hd, if_pos (by omega), h2]
    simp only
    omega

end Go.Ab
/-! Parts of matrices by sets, minors, the symmetric part. No program here. -/
namespace Go.Ab

def idxs (n s : Nat) : List Nat := (List.range n).filter fun i => s.testBit i

/-- The rows of one set, the columns of another one. -/
def partRC (n : Nat) (m : List (List Int)) (a b : Nat) : List (List Int) := (idxs n a).map fun i => (idxs n b).map fun k => mAt m i k

def minorL (n : Nat) (m : List (List Int)) (s : Nat) : Int := det (idxs n s).length (mAt (partRC n m s s))
def minorsL (n : Nat) (m : List (List Int)) : List Int := (List.range (2 ^ n)).map (minorL n m)

/-- Twice the symmetric part. -/
def symL (n : Nat) (m : List (List Int)) : List (List Int) := tabL n fun i k => mAt m i k + mAt m k i

end Go.Ab

/-! The determinant of a set's columns is its minor, up to its sign. No program here. -/
namespace Go.Ab

/-- Two numbers exchanged. -/
def tr (c d i : Nat) : Nat := if i = c then d else if i = d then c else i

theorem tr_tr (c d i : Nat) : tr c d (tr c d i) = i := by
  unfold tr
  by_cases h1 : i = c
  · subst h1
    rw [if_pos rfl]
    by_cases h2 : d = i
    · subst h2; simp
    · rw [if_neg h2, if_pos rfl]
  · rw [if_neg h1]
    by_cases h2 : i = d
    · subst h2; simp
    · rw [if_neg h2, if_neg h1, if_neg h2]

theorem tr_lt {c d i n : Nat} (hc : c < n) (hd : d < n) (hi : i < n) : tr c d i < n := by unfold tr; split <;> (try split) <;> omega

theorem det_trow {n c d : Nat} {A : Mat} (hc : c < n) (hd : d < n) (hcd : c ≠ d) : det n (fun i j => A (tr c d i) j) = - det n A := by
  have h := det_row_swap (n := n) (A := A) (c := c) (d := d) hc hd hcd (A d) (A c)
  have e1 : urow (urow A c (A d)) d (A c) = fun i j => A (tr c d i) j := by
    funext i j
    unfold urow tr
    by_cases h1 : i = d
    · subst h1
      rw [if_pos rfl, if_neg (fun e => hcd e.symm), if_pos rfl]
    · rw [if_neg h1]
      by_cases h2 : i = c
      · simp [h2]
      · simp [h1, h2]
  have e2 : urow (urow A c (A c)) d (A d) = A := by
    funext i j
    unfold urow
    by_cases h1 : i = d
    · simp [h1]
    · rw [if_neg h1]
      by_cases h2 : i = c
      · simp [h2]
      · simp [h2]
  rw [e1, e2] at h
  exact h

theorem det_conj {n c d : Nat} {A : Mat} (hc : c < n) (hd : d < n) : det n (fun i j => A (tr c d i) (tr c d j)) = det n A := by
  by_cases hcd : c = d
  · subst hcd
    refine det_congr fun i j _ _ => ?_
    have : ∀ i, tr c c i = i := fun i => by unfold tr; split <;> (try split) <;> omega
    rw [this, this]
  · have h1 := det_trow (A := fun i j => A i (tr c d j)) hc hd hcd
    rw [h1]
    have h2 : det n (fun i j => A i (tr c d j)) = det n (fun i j => (fun r s => A s r) (tr c d i) j) := by
      rw [← det_turn (A := fun i j => A i (tr c d j))]
    rw [h2, det_trow (A := fun r s => A s r) hc hd hcd, det_turn, Int.neg_neg]

theorem det_perm {n : Nat} : ∀ m, m ≤ n → ∀ (A : Mat) (σ : Nat → Nat), Inj n σ → (∀ i, i < n → σ i < n) → (∀ i, m ≤ i → i < n → σ i = i) → det n (fun i j => A (σ i) (σ j)) = det n A
  | 0, _, A, σ, _, _, h => det_congr fun i j hi hj => by rw [h i (Nat.zero_le _) hi, h j (Nat.zero_le _) hj]
  | m + 1, hm, A, σ, hinj, hlt, h => by
    have hk := hlt m (by omega)
    have hkm : σ m ≤ m := by
      rcases Nat.lt_or_ge m (σ m) with g | g
      · have := hinj (σ m) m hk (by omega) (h (σ m) (by omega) hk)
        omega
      · exact g
    have ih := det_perm m (by omega) (fun r c => A (tr (σ m) m r) (tr (σ m) m c)) (fun i => tr (σ m) m (σ i)) (fun i j hi hj e => by
        refine hinj i j hi hj ?_
        have e : tr (σ m) m (σ i) = tr (σ m) m (σ j) := e
        rw [← tr_tr (σ m) m (σ i), e, tr_tr]) (fun i hi => tr_lt hk (by omega) (hlt i hi)) (fun i hi hin => by
        show tr (σ m) m (σ i) = i
        by_cases e : i = m
        · subst e
          unfold tr
          rw [if_pos rfl]
        · rw [h i (by omega) hin]
          unfold tr
          rw [if_neg (by omega), if_neg e])
    simp only [tr_tr] at ih
    rw [ih, det_conj hk (by omega)]

def comps (n s : Nat) : List Nat := (List.range n).filter fun i => !s.testBit i

end Go.Ab

/-! Runs by rules: what is exchanged, where runs end; bounds by the numbers of columns; fractions compared. No program here. -/
namespace Go.Ab

/-! ### Bits -/
section
variable {H : Heap} {k : Post}

theorem ofNat_toNat {a : Nat} (h : a < 9223372036854775808) : (BitVec.ofInt 64 (a : Int)).toNat = a := by
  rw [BitVec.ofInt_natCast, BitVec.toNat_ofNat]
  omega

end

/-! ### Bounds by the numbers of columns -/
def prodTo : Nat → (Nat → Nat) → Nat
  | 0, _ => 1
  | n + 1, B => prodTo n B * B n

theorem prodTo_congr {n : Nat} {f g : Nat → Nat} (h : ∀ i, i < n → f i = g i) : prodTo n f = prodTo n g := by
  induction n with
  | zero => rfl
  | succ n ih => simp only [prodTo]; rw [ih fun i hi => h i (by omega), h n (by omega)]

theorem prod_skip {n k : Nat} (h : k ≤ n) (B : Nat → Nat) : prodTo n (fun j => B (skip k j)) * B k = prodTo (n + 1) B := by
  induction n with
  | zero =>
    have : k = 0 := by omega
    subst this
    simp [prodTo]
  | succ n ih =>
    by_cases e : k = n + 1
    · subst e
      rw [show prodTo (n + 1) (fun j => B (skip (n + 1) j)) = prodTo (n + 1) B from prodTo_congr fun i hi => by unfold skip; rw [if_pos hi]]
      rfl
    · have h1 := ih (by omega)
      have h2 : skip k n = n + 1 := by unfold skip; rw [if_neg (by omega)]
      show prodTo n (fun j => B (skip k j)) * B (skip k n) * B k = prodTo (n + 1) B * B (n + 1)
      rw [h2, Nat.mul_right_comm, h1]

def fact : Nat → Nat
  | 0 => 1
  | n + 1 => (n + 1) * fact n

theorem det_leib : ∀ {n : Nat} {A : Mat} {B : Nat → Nat}, (∀ i j, i < n → j < n → (A i j).natAbs ≤ B j) → (det n A).natAbs ≤ fact n * prodTo n B
  | 0, _, _, _ => by simp [det, fact, prodTo]
  | n + 1, A, B, h => by
    have hm : ∀ k, k < n + 1 → (det n fun i j => A (i + 1) (skip k j)).natAbs ≤ fact n * prodTo n fun j => B (skip k j) := fun k hk => det_leib fun i j hi hj => h (i + 1) (skip k j) (by omega) (by unfold skip; split <;> omega)
    have h1 := sumTo_nsum (n + 1) fun k => sgn k * A 0 k * det n fun i j => A (i + 1) (skip k j)
    have h2 : nsum (n + 1) (fun k => (sgn k * A 0 k * det n fun i j => A (i + 1) (skip k j)).natAbs) ≤ (n + 1) * (fact n * prodTo (n + 1) B) := nsum_const fun k hk => by
      rw [Int.natAbs_mul, Int.natAbs_mul]
      have : (sgn k).natAbs = 1 := by unfold sgn; split <;> rfl
      rw [this, Nat.one_mul]
      have h3 := Nat.mul_le_mul (h 0 k (by omega) hk) (hm k hk)
      rw [← prod_skip (show k ≤ n by omega) B]
      calc (A 0 k).natAbs * (det n fun i j => A (i + 1) (skip k j)).natAbs ≤ B k * (fact n * prodTo n fun j => B (skip k j)) := h3
        _ = fact n * (prodTo n (fun j => B (skip k j)) * B k) := by rw [Nat.mul_left_comm, Nat.mul_comm (B k)]
    simp only [det, fact]
    rw [Nat.mul_assoc]
    omega

theorem fact5 {n : Nat} (h : n ≤ 5) : fact n ≤ 120 := by
  have : ∀ m : Fin 6, fact m ≤ 120 := by decide
  exact this ⟨n, by omega⟩

theorem prod100 {n k : Nat} (h : n ≤ 5) (hk : k < n) : prodTo n (fun j => if j = k then 100 else 20) ≤ 16000000 := by
  have : ∀ m : Fin 6, ∀ k : Fin 6, prodTo m (fun j => if j = (k : Nat) then 100 else 20) ≤ 16000000 := by decide
  exact this ⟨n, by omega⟩ ⟨k, by omega⟩

theorem solve_leib {n : Nat} {m : List (List Int)} {q : List Int} (s : Nat) (hn : n ≤ 5) (h : ∀ r c, (mAt m r c).natAbs ≤ 20) (hq : ∀ e ∈ q, e.natAbs ≤ 100) : ∀ e ∈ solveL n (colL n m s) q, e.natAbs ≤ 1920000000 := fun e he => by
  obtain ⟨k, hk, rfl⟩ := List.mem_map.1 he
  have hk : k < n := by simpa using hk
  have h1 := det_leib (n := n) (A := mAt (putCol k q (colL n m s))) (B := fun j => if j = k then 100 else 20) fun i j hi hj => by
    rw [putCol_at (show Sq n (colL n m s) from tabL_sq n _) hi hj]
    by_cases e : j = k
    · rw [if_pos e, if_pos e, List.getD_eq_getElem?_getD]
      cases e2 : q[i]? with
      | none => simp
      | some x => exact hq x (List.mem_of_getElem? e2)
    · rw [if_neg e, if_neg e]
      show (mAt (colL n m s) i j).natAbs ≤ 20
      rw [colL_at hi hj]
      exact colE_abs (h i j)
  have := Nat.mul_le_mul (fact5 hn) (prod100 hn hk)
  omega

/-! ### Fractions compared -/
theorem frac_abs {x d : Int} : (frac x d).1.natAbs ≤ x.natAbs ∧ (frac x d).2.natAbs ≤ d.natAbs := by
  unfold frac
  have h1 : (x / (Int.gcd x d : Int)).natAbs ≤ x.natAbs := Int.natAbs_ediv_le_natAbs _ _
  have h2 : (d / (Int.gcd x d : Int)).natAbs ≤ d.natAbs := Int.natAbs_ediv_le_natAbs _ _
  split
  · simp only [Int.natAbs_neg]; exact ⟨h1, h2⟩
  · exact ⟨h1, h2⟩

/-! ### What is exchanged -/
def exA (l : List Int) : Nat → Nat
  | 0 => 0
  | i + 1 => if l.getD i 0 < 0 then exA l i ||| 2 ^ i else exA l i
def exF (l : List Int) : Nat → Int
  | 0 => -1
  | i + 1 => if l.getD i 0 < 0 then (if exF l i < 0 then (i : Int) else exF l i) else exF l i
def exL (l : List Int) : Nat → Int
  | 0 => -1
  | i + 1 => if l.getD i 0 < 0 then (i : Int) else exL l i
def exM (l : List Int) : Nat → Int
  | 0 => -1
  | i + 1 => if l.getD i 0 < 0 then (if exM l i < 0 ∨ l.getD i 0 < l.getD (exM l i).toNat 0 then (i : Int) else exM l i) else exM l i

/-- What a rule exchanges at a point. -/
def exV (l : List Int) (rule : Int) : Nat :=
  if exA l l.length = 0 then 0 else if rule = 3 then exA l l.length else if rule = 0 then 2 ^ (exF l l.length).toNat else if rule = 1 then 2 ^ (exL l l.length).toNat else 2 ^ (exM l l.length).toNat

/-! ### Runs -/
section
variable (n : Nat) (p : List (List Int) × List Int) (rule : Int)

def ptOf (s : Nat) : List Int := pointL n (colL n p.1 s) p.2
def stp (s : Nat) : Nat := s ^^^ exV (ptOf n p s) rule
/-- The sets of a run. -/
def ss (s0 : Nat) : Nat → Nat
  | 0 => s0
  | k + 1 => stp n p rule (ss s0 k)
/-- How a run ends at its k-th set, if it does. -/
def cls (s0 k : Nat) : Option Int :=
  if det n (mAt (colL n p.1 (ss n p rule s0 k))) = 0 then some 1 else if ss n p rule s0 k ∈ (List.range k).map (ss n p rule s0) then some 2 else if exV (ptOf n p (ss n p rule s0 k)) rule = 0 then some 0 else none
def RunEnd (s0 k : Nat) (e : Int) : Prop := (∀ j, j < k → cls n p rule s0 j = none) ∧ cls n p rule s0 k = some e

variable {n p rule}
theorem ptOf_len (s : Nat) : (ptOf n p s).length = n := by simp [ptOf, pointL, solveL]

end

end Go.Ab

/-! What the numbers of a solution by determinants fulfil. No program here. -/
namespace Go.Ab

/-- The columns of A but the c-th, with q as the m-th. -/
def inCol (A : Mat) (q : Nat → Int) (c m : Nat) : Mat := fun i j => if j < m then A i j else if j = m then q i else if j ≤ c then A i (j - 1) else A i j

theorem inCol_last {A : Mat} {q : Nat → Int} {c : Nat} : inCol A q c c = ucol A c q := by
  funext i j
  unfold inCol ucol
  by_cases h : j = c
  · subst h; simp
  · by_cases h2 : j < c
    · rw [if_pos h2, if_neg h]
    · rw [if_neg h2, if_neg h, if_neg (by omega), if_neg h]

theorem inCol_step {n : Nat} {A : Mat} {q : Nat → Int} {c m : Nat} (hm : m < c) (hc : c < n) : det n (inCol A q c m) = - det n (inCol A q c (m + 1)) := by
  have h1 : inCol A q c m = ucol (ucol (inCol A q c m) m q) (m + 1) (fun i => A i m) := by
    funext i j
    unfold ucol
    by_cases e : j = m + 1
    · subst e
      rw [if_pos rfl]
      unfold inCol
      rw [if_neg (by omega), if_neg (by omega), if_pos (by omega)]
      rfl
    · rw [if_neg e]
      by_cases e2 : j = m
      · subst e2
        rw [if_pos rfl]
        unfold inCol
        rw [if_neg (by omega), if_pos rfl]
      · rw [if_neg e2]
  have h2 : inCol A q c (m + 1) = ucol (ucol (inCol A q c m) m (fun i => A i m)) (m + 1) q := by
    funext i j
    unfold ucol
    by_cases e : j = m + 1
    · subst e
      rw [if_pos rfl]
      unfold inCol
      rw [if_neg (by omega), if_pos rfl]
    · rw [if_neg e]
      by_cases e2 : j = m
      · subst e2
        rw [if_pos rfl]
        unfold inCol
        rw [if_pos (by omega)]
      · rw [if_neg e2]
        unfold inCol
        by_cases e3 : j < m
        · rw [if_pos (by omega), if_pos e3]
        · rw [if_neg (by omega), if_neg (by omega), if_neg e3, if_neg e2]
  rw [h2]
  conv => lhs; rw [h1]
  exact det_swap_adj (by omega) _ _

theorem inCol_move {n : Nat} {A : Mat} {q : Nat → Int} {c : Nat} (hc : c < n) : ∀ d, d ≤ c → det n (inCol A q c (c - d)) = sgn d * det n (ucol A c q)
  | 0, _ => by rw [Nat.sub_zero, inCol_last, sgn_zero, Int.one_mul]
  | d + 1, h => by
    rw [inCol_step (by omega) hc, show c - (d + 1) + 1 = c - d by omega, inCol_move hc d (by omega), sgn_succ, Int.neg_mul]

/-- Cramer's rule. -/
theorem cramer {n : Nat} {A : Mat} {q : Nat → Int} {r : Nat} (hr : r < n) : sumTo n (fun c => A r c * det n (ucol A c q)) = q r * det n A := by
  let B : Mat := fun i j => if i = 0 then (if j = 0 then q r else A r (j - 1)) else (if j = 0 then q (i - 1) else A (i - 1) (j - 1))
  have h0 : det (n + 1) B = 0 := det_row_same (c := 0) (d := r + 1) (by omega) (by omega) (by omega) fun j => by
    show B 0 j = B (r + 1) j
    simp [B]
  have h1 : det (n + 1) B = sumTo (n + 1) fun k => sgn k * B 0 k * det n fun i j => B (i + 1) (skip k j) := rfl
  rw [h1, sumTo_first] at h0
  have e0 : (det n fun i j => B (i + 1) (skip 0 j)) = det n A := det_congr fun i j _ _ => by simp [B, skip]
  have ek : ∀ c, c < n → sgn (c + 1) * B 0 (c + 1) * (det n fun i j => B (i + 1) (skip (c + 1) j)) = - (A r c * det n (ucol A c q)) := fun c hc => by
    have em : (det n fun i j => B (i + 1) (skip (c + 1) j)) = det n (inCol A q c 0) := det_congr fun i j _ _ => by
      unfold inCol skip
      by_cases hj : j = 0
      · subst hj; simp [B]
      · by_cases hj2 : j < c + 1
        · rw [if_pos hj2, if_neg (by omega), if_neg hj, if_pos (by omega)]
          simp [B, hj]
        · rw [if_neg hj2, if_neg (by omega), if_neg hj, if_neg (by omega)]
          simp [B]
    have mv := inCol_move (n := n) (A := A) (q := q) hc c (Nat.le_refl _)
    rw [Nat.sub_self] at mv
    have hb : B 0 (c + 1) = A r c := by simp [B]
    have hsq := sgn_sq c
    rw [em, mv, hb, sgn_succ]
    have : -sgn c * A r c * (sgn c * det n (ucol A c q)) = -(sgn c * sgn c) * (A r c * det n (ucol A c q)) := by
      rw [Int.neg_mul, Int.neg_mul, Int.neg_mul]
      congr 1
      rw [Int.mul_assoc, Int.mul_assoc, Int.mul_left_comm (A r c)]
    rw [this, hsq, Int.neg_mul, Int.one_mul]
  have hs : sumTo n (fun i => sgn (i + 1) * B 0 (i + 1) * (det n fun a j => B (a + 1) (skip (i + 1) j))) = - sumTo n (fun c => A r c * det n (ucol A c q)) := by
    rw [← sumTo_neg]
    exact sumTo_congr ek
  rw [hs, e0, sgn_zero, Int.one_mul] at h0
  have hb0 : B 0 0 = q r := by simp [B]
  rw [hb0] at h0
  omega

/-- What the numbers of a solution fulfil. -/
theorem solve_row {n : Nat} {rows : List (List Int)} {q : List Int} (hs : Sq n rows) {r : Nat} (hr : r < n) : sumTo n (fun c => mAt rows r c * (solveL n rows q).getD c 0) = q.getD r 0 * det n (mAt rows) := by
  rw [← cramer (A := mAt rows) (q := fun i => q.getD i 0) hr]
  refine sumTo_congr fun c hc => ?_
  congr 1
  rw [atD (by rw [solveL_len]; exact hc), solveL_at]
  exact det_congr fun i j hi hj => by
    rw [putCol_at hs hi hj]
    rfl

end Go.Ab

/-! Determinants whose numbers lie between bounds of their columns. No program here. -/
namespace Go.Ab

/-- An affine number is bounded by those at the ends. -/
theorem ends {a b x B : Int} (h1 : -B ≤ x) (h2 : x ≤ B) {M : Nat} (e1 : (a * B + b).natAbs ≤ M) (e2 : (a * -B + b).natAbs ≤ M) : (a * x + b).natAbs ≤ M := by
  rcases Int.le_total 0 a with ha | ha
  · have g1 := Int.mul_le_mul_of_nonneg_left h2 ha
    have g2 := Int.mul_le_mul_of_nonneg_left h1 ha
    omega
  · have g1 := Int.mul_le_mul_of_nonpos_left ha h2
    have g2 := Int.mul_le_mul_of_nonpos_left ha h1
    omega

/-- One number of a row put in place. -/
def uent (A : Mat) (i j : Nat) (x : Int) : Mat := fun r c => if r = i ∧ c = j then x else A r c

def prodI (B : Nat → Int) : Nat → Int
  | 0 => 1
  | m + 1 => prodI B m * B m

end Go.Ab

/-! Determinants of five rows whose numbers lie between bounds of their columns: at most 48 times the bounds. No program here. -/
namespace Go.Ab

/-- The minors of two rows of numbers 0 and 1, by two columns each. -/
def minors2 : List (Int × Int × Int × Int × Int × Int) := [(-1, -1, -1, -1, -1, 0), (-1, -1, -1, -1, 0, 1), (-1, -1, -1, 0, -1, -1), (-1, -1, -1, 0, 0, 0), (-1, -1, -1, 0, 1, 1), (-1, -1, -1, 1, 0, -1), (-1, -1, -1, 1, 1, 0), (-1, -1, 0, -1, 0, 0), (-1, -1, 0, -1, 1, 1), (-1, -1, 0, 0, 0, 0), (-1, -1, 0, 0, 1, 1), (-1, -1, 0, 1, 0, 0), (-1, -1, 0, 1, 1, 1), (-1, -1, 1, 0, 1, 1), (-1, 0, -1, 0, -1, 0), (-1, 0, -1, 0, 0, 0), (-1, 0, -1, 0, 1, 0), (-1, 0, -1, 1, -1, -1), (-1, 0, -1, 1, 0, -1), (-1, 0, -1, 1, 1, -1), (-1, 0, 0, 0, 0, 0), (-1, 0, 0, 0, 1, 0), (-1, 0, 0, 1, 0, 0), (-1, 0, 0, 1, 1, 0), (-1, 0, 1, 0, 1, 0), (-1, 0, 1, 1, 1, 1), (-1, 1, -1, 1, 0, -1), (-1, 1, 0, 1, 0, 0), (-1, 1, 0, 1, 1, -1), (-1, 1, 1, 1, 1, 0), (0, -1, -1, -1, -1, -1), (0, -1, -1, -1, -1, 0), (0, -1, -1, -1, -1, 1), (0, -1, -1, 0, 0, -1), (0, -1, -1, 0, 0, 0), (0, -1, -1, 0, 0, 1), (0, -1, 0, -1, 0, 0), (0, -1, 0, -1, 0, 1), (0, -1, 0, 0, 0, 0), (0, -1, 0, 0, 0, 1), (0, -1, 1, -1, 1, 1), (0, -1, 1, 0, 0, 1), (0, 0, -1, 0, -1, -1), (0, 0, -1, 0, -1, 0), (0, 0, -1, 0, 0, -1), (0, 0, -1, 0, 0, 0), (0, 0, 0, -1, -1, -1), (0, 0, 0, -1, -1, 0), (0, 0, 0, -1, -1, 1), (0, 0, 0, -1, 0, 0), (0, 0, 0, -1, 0, 1), (0, 0, 0, -1, 1, 1), (0, 0, 0, 0, -1, -1), (0, 0, 0, 0, -1, 0), (0, 0, 0, 0, 0, -1), (0, 0, 0, 0, 0, 0), (0, 0, 0, 0, 0, 1), (0, 0, 0, 0, 1, 0), (0, 0, 0, 0, 1, 1), (0, 0, 0, 1, -1, -1), (0, 0, 0, 1, 0, -1), (0, 0, 0, 1, 0, 0), (0, 0, 0, 1, 1, -1), (0, 0, 0, 1, 1, 0), (0, 0, 0, 1, 1, 1), (0, 0, 1, 0, 0, 0), (0, 0, 1, 0, 0, 1), (0, 0, 1, 0, 1, 0), (0, 0, 1, 0, 1, 1), (0, 1, -1, 0, 0, -1), (0, 1, -1, 1, -1, -1), (0, 1, 0, 0, 0, -1), (0, 1, 0, 0, 0, 0), (0, 1, 0, 1, 0, -1), (0, 1, 0, 1, 0, 0), (0, 1, 1, 0, 0, -1), (0, 1, 1, 0, 0, 0), (0, 1, 1, 0, 0, 1), (0, 1, 1, 1, 1, -1), (0, 1, 1, 1, 1, 0), (0, 1, 1, 1, 1, 1), (1, -1, -1, -1, -1, 0), (1, -1, 0, -1, -1, 1), (1, -1, 0, -1, 0, 0), (1, -1, 1, -1, 0, 1), (1, 0, -1, -1, -1, -1), (1, 0, -1, 0, -1, 0), (1, 0, 0, -1, -1, 0), (1, 0, 0, -1, 0, 0), (1, 0, 0, 0, -1, 0), (1, 0, 0, 0, 0, 0), (1, 0, 1, -1, -1, 1), (1, 0, 1, -1, 0, 1), (1, 0, 1, -1, 1, 1), (1, 0, 1, 0, -1, 0), (1, 0, 1, 0, 0, 0), (1, 0, 1, 0, 1, 0), (1, 1, -1, 0, -1, -1), (1, 1, 0, -1, -1, -1), (1, 1, 0, -1, 0, 0), (1, 1, 0, 0, -1, -1), (1, 1, 0, 0, 0, 0), (1, 1, 0, 1, -1, -1), (1, 1, 0, 1, 0, 0), (1, 1, 1, -1, -1, 0), (1, 1, 1, -1, 0, 1), (1, 1, 1, 0, -1, -1), (1, 1, 1, 0, 0, 0), (1, 1, 1, 0, 1, 1), (1, 1, 1, 1, 0, -1), (1, 1, 1, 1, 1, 0)]

def mi2 (a b c d e f g h : Bool) : Int × Int × Int × Int × Int × Int :=
  let z := fun x : Bool => if x then (1 : Int) else 0
  (z a * z f - z b * z e, z a * z g - z c * z e, z a * z h - z d * z e, z b * z g - z c * z f, z b * z h - z d * z f, z c * z h - z d * z g)

def dot2 (u v : Int × Int × Int × Int × Int × Int) : Int :=
  u.1 * v.2.2.2.2.2 - u.2.1 * v.2.2.2.2.1 + u.2.2.1 * v.2.2.2.1 + u.2.2.2.1 * v.2.2.1 - u.2.2.2.2.1 * v.2.1 + u.2.2.2.2.2 * v.1

end Go.Ab
