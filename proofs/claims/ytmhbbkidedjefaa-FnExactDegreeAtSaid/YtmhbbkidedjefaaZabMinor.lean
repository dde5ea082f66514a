/- The determinant of a set's columns is its minor, up to its sign. No program here. -/
import Derived.Test.YtmhbbkidedjefaaZabPart
namespace Go.Ab

/-- Two numbers exchanged. -/
def tr (c d i : Nat) : Nat := if i = c then d else if i = d then c else i

theorem tr_tr (c d i : Nat) : tr c d (tr c d i) = i := by
  unfold tr
  by_cases h1 : i = c
  · subst h1
    rw [if_pos rfl]
    by_cases h2 : d = i
    · subst h2; simp
    · rw [if_neg h2, if_pos rfl]
  · rw [if_neg h1]
    by_cases h2 : i = d
    · subst h2; simp
    · rw [if_neg h2, if_neg h1, if_neg h2]

theorem tr_lt {c d i n : Nat} (hc : c < n) (hd : d < n) (hi : i < n) : tr c d i < n := by unfold tr; split <;> (try split) <;> omega

theorem det_trow {n c d : Nat} {A : Mat} (hc : c < n) (hd : d < n) (hcd : c ≠ d) : det n (fun i j => A (tr c d i) j) = - det n A := by
  have h := det_row_swap (n := n) (A := A) (c := c) (d := d) hc hd hcd (A d) (A c)
  have e1 : urow (urow A c (A d)) d (A c) = fun i j => A (tr c d i) j := by
    funext i j
    unfold urow tr
    by_cases h1 : i = d
    · subst h1
      rw [if_pos rfl, if_neg (fun e => hcd e.symm), if_pos rfl]
    · rw [if_neg h1]
      by_cases h2 : i = c
      · simp [h2]
      · simp [h1, h2]
  have e2 : urow (urow A c (A c)) d (A d) = A := by
    funext i j
    unfold urow
    by_cases h1 : i = d
    · simp [h1]
    · rw [if_neg h1]
      by_cases h2 : i = c
      · simp [h2]
      · simp [h2]
  rw [e1, e2] at h
  exact h

theorem det_conj {n c d : Nat} {A : Mat} (hc : c < n) (hd : d < n) : det n (fun i j => A (tr c d i) (tr c d j)) = det n A := by
  by_cases hcd : c = d
  · subst hcd
    refine det_congr fun i j _ _ => ?_
    have : ∀ i, tr c c i = i := fun i => by unfold tr; split <;> (try split) <;> omega
    rw [this, this]
  · have h1 := det_trow (A := fun i j => A i (tr c d j)) hc hd hcd
    rw [h1]
    have h2 : det n (fun i j => A i (tr c d j)) = det n (fun i j => (fun r s => A s r) (tr c d i) j) := by
      rw [← det_turn (A := fun i j => A i (tr c d j))]
    rw [h2, det_trow (A := fun r s => A s r) hc hd hcd, det_turn, Int.neg_neg]

theorem det_perm {n : Nat} : ∀ m, m ≤ n → ∀ (A : Mat) (σ : Nat → Nat), Inj n σ → (∀ i, i < n → σ i < n) → (∀ i, m ≤ i → i < n → σ i = i) → det n (fun i j => A (σ i) (σ j)) = det n A
  | 0, _, A, σ, _, _, h => det_congr fun i j hi hj => by rw [h i (Nat.zero_le _) hi, h j (Nat.zero_le _) hj]
  | m + 1, hm, A, σ, hinj, hlt, h => by
    have hk := hlt m (by omega)
    have hkm : σ m ≤ m := by
      rcases Nat.lt_or_ge m (σ m) with g | g
      · have := hinj (σ m) m hk (by omega) (h (σ m) (by omega) hk)
        omega
      · exact g
    have ih := det_perm m (by omega) (fun r c => A (tr (σ m) m r) (tr (σ m) m c)) (fun i => tr (σ m) m (σ i)) (fun i j hi hj e => by
        refine hinj i j hi hj ?_
        have e : tr (σ m) m (σ i) = tr (σ m) m (σ j) := e
        rw [← tr_tr (σ m) m (σ i), e, tr_tr]) (fun i hi => tr_lt hk (by omega) (hlt i hi)) (fun i hi hin => by
        show tr (σ m) m (σ i) = i
        by_cases e : i = m
        · subst e
          unfold tr
          rw [if_pos rfl]
        · rw [h i (by omega) hin]
          unfold tr
          rw [if_neg (by omega), if_neg e])
    simp only [tr_tr] at ih
    rw [ih, det_conj hk (by omega)]

theorem det_unit {n : Nat} : ∀ {q : Nat} {A : Mat}, (∀ i j, i < q + n → j < q → A i j = if i = j then 1 else 0) → det (q + n) A = det n fun i j => A (q + i) (q + j)
  | 0, A, _ => by
    rw [Nat.zero_add]
    exact det_congr fun i j _ _ => by rw [Nat.zero_add, Nat.zero_add]
  | q + 1, A, h => by
    rw [show q + 1 + n = (q + n) + 1 by omega, det_first fun i hi => by rw [h (i + 1) 0 (by omega) (by omega), if_neg (by omega)]]
    rw [h 0 0 (by omega) (by omega), if_pos rfl, Int.one_mul, det_unit (q := q) (A := fun i j => A (i + 1) (j + 1)) fun i j hi hj => by
      rw [h (i + 1) (j + 1) (by omega) (by omega)]
      by_cases e : i = j
      · rw [if_pos e, if_pos (by omega)]
      · rw [if_neg e, if_neg (by omega)]]
    exact det_congr fun i j _ _ => by rw [show q + i + 1 = q + 1 + i by omega, show q + j + 1 = q + 1 + j by omega]

def comps (n s : Nat) : List Nat := (List.range n).filter fun i => !s.testBit i

theorem parts_len (n s : Nat) : (comps n s).length + (idxs n s).length = n := by
  induction n with
  | zero => rfl
  | succ n ih =>
    cases h : s.testBit n with
    | true =>
      rw [idxs_in h]
      have : comps (n + 1) s = comps n s := by
        unfold comps
        rw [List.range_succ, List.filter_append]
        simp [h]
      rw [this, List.length_append]
      simp
      omega
    | false =>
      rw [idxs_out h]
      have : comps (n + 1) s = comps n s ++ [n] := by
        unfold comps
        rw [List.range_succ, List.filter_append]
        simp [h]
      rw [this, List.length_append]
      simp
      omega

theorem parts_nodup (n s : Nat) : (comps n s ++ idxs n s).Nodup := by
  rw [List.nodup_append]
  refine ⟨List.nodup_range.filter _, List.nodup_range.filter _, fun a ha b hb e => ?_⟩
  subst e
  simp only [comps, idxs, List.mem_filter] at ha hb
  rw [hb.2] at ha
  simp at ha

/-- The columns of a set have its minor as their determinant, up to the sign. -/
theorem det_cols (n : Nat) (m : List (List Int)) (s : Nat) : det n (mAt (colL n m s)) = (-1) ^ (idxs n s).length * minorL n m s := by
  have hl := parts_len n s
  have hnd := parts_nodup n s
  have hlen : (comps n s ++ idxs n s).length = n := by rw [List.length_append]; exact hl
  have e0 : det n (mAt (colL n m s)) = det n (colE m s) := det_congr fun i j hi hj => colL_at hi hj
  have hget : ∀ i, i < n → ∀ h : i < (comps n s ++ idxs n s).length, (comps n s ++ idxs n s).getD i 0 = (comps n s ++ idxs n s)[i] := fun i _ h => by
    rw [List.getD_eq_getElem?_getD, List.getElem?_eq_getElem h]; rfl
  have hinj : Inj n fun i => (comps n s ++ idxs n s).getD i 0 := fun i j hi hj e => by
    have e : (comps n s ++ idxs n s).getD i 0 = (comps n s ++ idxs n s).getD j 0 := e
    rw [hget i hi (by omega), hget j hj (by omega)] at e
    have hp := List.pairwise_iff_getElem.1 hnd
    rcases Nat.lt_trichotomy i j with g | g | g
    · exact absurd e (hp i j (by omega) (by omega) g)
    · exact g
    · exact absurd e.symm (hp j i (by omega) (by omega) g)
  have hlt : ∀ i, i < n → (comps n s ++ idxs n s).getD i 0 < n := fun i hi => by
    rw [hget i hi (by omega)]
    have := List.getElem_mem (show i < (comps n s ++ idxs n s).length by omega)
    rw [List.mem_append] at this
    rcases this with h | h
    · have := (List.mem_filter.1 h).1; simpa using this
    · have := (List.mem_filter.1 h).1; simpa using this
  have e1 := det_perm n (Nat.le_refl _) (colE m s) (fun i => (comps n s ++ idxs n s).getD i 0) hinj hlt (fun i h1 h2 => by omega)
  have hc : ∀ j, j < (comps n s).length → s.testBit ((comps n s ++ idxs n s).getD j 0) = false := fun j hj => by
    rw [hget j (by omega) (by omega), List.getElem_append_left hj]
    have := (List.mem_filter.1 (List.getElem_mem hj)).2
    simpa using this
  have hi2 : ∀ j (hj : j < (idxs n s).length), (comps n s ++ idxs n s).getD ((comps n s).length + j) 0 = (idxs n s)[j] ∧ s.testBit (idxs n s)[j] = true := fun j hj => by
    rw [hget _ (by omega) (by omega), List.getElem_append_right (by omega)]
    refine ⟨by congr 1; omega, ?_⟩
    have := (List.mem_filter.1 (List.getElem_mem hj)).2
    simpa using this
  have e2 : det n (fun i j => colE m s ((comps n s ++ idxs n s).getD i 0) ((comps n s ++ idxs n s).getD j 0)) = det ((comps n s).length + (idxs n s).length) (fun i j => colE m s ((comps n s ++ idxs n s).getD i 0) ((comps n s ++ idxs n s).getD j 0)) := by rw [hl]
  have e3 := det_unit (n := (idxs n s).length) (q := (comps n s).length) (A := fun i j => colE m s ((comps n s ++ idxs n s).getD i 0) ((comps n s ++ idxs n s).getD j 0)) fun i j hi hj => by
    show colE m s _ _ = _
    unfold colE
    rw [if_neg (by rw [hc j hj]; exact Bool.false_ne_true)]
    by_cases e : i = j
    · rw [if_pos (by rw [e]), if_pos e]
    · rw [if_neg (fun g => e (hinj i j (by omega) (by omega) g)), if_neg e]
  have e4 : det (idxs n s).length (fun i j => colE m s ((comps n s ++ idxs n s).getD ((comps n s).length + i) 0) ((comps n s ++ idxs n s).getD ((comps n s).length + j) 0)) = det (idxs n s).length (fun i j => -1 * mAt (partRC n m s s) i j) := det_congr fun i j hi hj => by
    obtain ⟨a1, _⟩ := hi2 i hi
    obtain ⟨b1, b2⟩ := hi2 j hj
    rw [a1, b1]
    unfold colE
    rw [if_pos b2]
    have : mAt (partRC n m s s) i j = mAt m (idxs n s)[i] (idxs n s)[j] := by
      simp only [mAt, partRC, List.getD_eq_getElem?_getD, List.getElem?_map]
      rw [List.getElem?_eq_getElem hi]
      simp only [Option.map_some, Option.getD_some, List.getElem?_map]
      rw [List.getElem?_eq_getElem hj]
      rfl
    rw [this]
    omega
  rw [e0, ← e1, e2, e3, e4, det_mul_all]
  rfl

theorem minor_ne {n : Nat} {m : List (List Int)} {s : Nat} (h : det n (mAt (colL n m s)) ≠ 0) : minorL n m s ≠ 0 := fun e => by
  rw [det_cols, e, Int.mul_zero] at h
  exact h rfl

end Go.Ab
