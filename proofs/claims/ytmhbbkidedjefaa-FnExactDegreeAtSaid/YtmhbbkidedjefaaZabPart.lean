/- Parts of matrices by sets, minors, the symmetric part. No program here. -/
import Derived.Test.YtmhbbkidedjefaaZabSolve
namespace Go.Ab

def idxs (n s : Nat) : List Nat := (List.range n).filter fun i => s.testBit i

theorem idxs_zero (s : Nat) : idxs 0 s = [] := rfl
theorem idxs_in {n s : Nat} (h : s.testBit n = true) : idxs (n + 1) s = idxs n s ++ [n] := by
  unfold idxs
  rw [List.range_succ, List.filter_append]
  simp [h]
theorem idxs_out {n s : Nat} (h : s.testBit n = false) : idxs (n + 1) s = idxs n s := by
  unfold idxs
  rw [List.range_succ, List.filter_append]
  simp [h]
theorem idxs_len (n s : Nat) : (idxs n s).length ≤ n := by
  have := List.length_filter_le (fun i => s.testBit i) (List.range n)
  simpa [idxs] using this

/-- The rows of one set, the columns of another one. -/
def partRC (n : Nat) (m : List (List Int)) (a b : Nat) : List (List Int) := (idxs n a).map fun i => (idxs n b).map fun k => mAt m i k

theorem partRC_sq (n : Nat) (m : List (List Int)) (s : Nat) : Sq (idxs n s).length (partRC n m s s) := by
  refine ⟨by simp [partRC], fun r hr => ?_⟩
  obtain ⟨a, _, rfl⟩ := List.mem_map.1 hr
  simp

theorem partRC_abs {n : Nat} {m : List (List Int)} {a b B : Nat} (h : ∀ r c, (mAt m r c).natAbs ≤ B) (r c : Nat) : (mAt (partRC n m a b) r c).natAbs ≤ B := by
  simp only [mAt, partRC, List.getD_eq_getElem?_getD, List.getElem?_map]
  cases e1 : (idxs n a)[r]? with
  | none => simp
  | some i =>
    simp only [Option.map_some, Option.getD_some, List.getElem?_map]
    cases e2 : (idxs n b)[c]? with
    | none => simp
    | some k =>
      simp only [Option.map_some, Option.getD_some]
      have := h i k
      simp only [mAt, List.getD_eq_getElem?_getD] at this
      exact this

theorem partRC_rows {n : Nat} {m : List (List Int)} {s : Nat} (hn : n ≤ 5) (h : ∀ r c, (mAt m r c).natAbs ≤ 40) : ∀ i, i < (idxs n s).length → nsum (idxs n s).length (fun j => (mAt (partRC n m s s) i j).natAbs) ≤ 200 :=
  rows_bound (B := 40) (Nat.le_trans (idxs_len n s) hn) fun r c _ _ => partRC_abs h r c

def minorL (n : Nat) (m : List (List Int)) (s : Nat) : Int := det (idxs n s).length (mAt (partRC n m s s))
def minorsL (n : Nat) (m : List (List Int)) : List Int := (List.range (2 ^ n)).map (minorL n m)

theorem minorL_abs {n : Nat} {m : List (List Int)} (hn : n ≤ 5) (h : ∀ r c, (mAt m r c).natAbs ≤ 40) (s : Nat) : (minorL n m s).natAbs ≤ 320000000000 := det200 (Nat.le_trans (idxs_len n s) hn) (partRC_rows hn h)

/-- Twice the symmetric part. -/
def symL (n : Nat) (m : List (List Int)) : List (List Int) := tabL n fun i k => mAt m i k + mAt m k i

theorem tabL_abs {n B : Nat} {f : Nat → Nat → Int} (h : ∀ r c, (f r c).natAbs ≤ B) (r c : Nat) : (mAt (tabL n f) r c).natAbs ≤ B := by
  simp only [mAt, tabL, List.getD_eq_getElem?_getD, List.getElem?_map]
  cases e1 : (List.range n)[r]? with
  | none => simp
  | some i =>
    simp only [Option.map_some, Option.getD_some, List.getElem?_map]
    cases e2 : (List.range n)[c]? with
    | none => simp
    | some k =>
      simp only [Option.map_some, Option.getD_some]
      exact h i k

end Go.Ab
