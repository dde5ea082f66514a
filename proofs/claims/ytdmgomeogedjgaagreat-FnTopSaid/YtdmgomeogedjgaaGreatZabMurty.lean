/- The rule of the least index ends solved where all principal minors are greater than 0; dominant matrices have such minors. No program here. -/
import Derived.Test.YtdmgomeogedjgaaGreatZabPmat
namespace Go.Ab

section
variable {n : Nat} {p : List (List Int) × List Int}

theorem exF_first (l : List Int) : ∀ k, exA l k ≠ 0 → ∃ m, m < k ∧ exF l k = (m : Int) ∧ l.getD m 0 < 0 ∧ ∀ i, i < m → 0 ≤ l.getD i 0
  | 0, h => absurd rfl h
  | k + 1, h => by
    rcases ex_inv l k with ⟨h1, h2, _, _, h5⟩ | ⟨h1, h2, _, _, _⟩
    · by_cases hn : l.getD k 0 < 0
      · refine ⟨k, by omega, ?_, hn, h5⟩
        simp only [exF, if_pos hn]
        rw [if_pos (by omega)]
      · simp only [exA, if_neg hn] at h
        exact absurd h1 h
    · obtain ⟨m, g1, g2, g3, g4⟩ := exF_first l k h1
      refine ⟨m, by omega, ?_, g3, g4⟩
      simp only [exF]
      by_cases hn : l.getD k 0 < 0
      · rw [if_pos hn, if_neg (by omega), g2]
      · rw [if_neg hn, g2]

/-- The rule 0 exchanges the first variable whose number is less than 0. -/
theorem ex0_first {l : List Int} (h : exV l 0 ≠ 0) : ∃ m, m < l.length ∧ exV l 0 = 2 ^ m ∧ l.getD m 0 < 0 ∧ ∀ i, i < m → 0 ≤ l.getD i 0 := by
  have h0 : exA l l.length ≠ 0 := fun g => h (exV_zero.2 g)
  obtain ⟨m, g1, g2, g3, g4⟩ := exF_first l l.length h0
  refine ⟨m, g1, ?_, g3, g4⟩
  unfold exV
  rw [if_neg h0, if_neg (by decide), if_pos rfl, g2, Int.toNat_natCast]

theorem bit_step {s m c : Nat} : (s ^^^ 2 ^ m).testBit c = (s.testBit c ^^ decide (m = c)) := by
  rw [Nat.testBit_xor, Nat.testBit_two_pow]

theorem bit_stay {s0 c : Nat} {f : Nat → Nat} {x : Nat} : ∀ d, (∀ t, x ≤ t → t < x + d → ss n p 0 s0 (t + 1) = ss n p 0 s0 t ^^^ 2 ^ f t) → (∀ t, x ≤ t → t < x + d → f t ≠ c) → (ss n p 0 s0 (x + d)).testBit c = (ss n p 0 s0 x).testBit c
  | 0, _, _ => rfl
  | d + 1, h1, h2 => by
    rw [← Nat.add_assoc, h1 (x + d) (by omega) (by omega), bit_step, bit_stay d (fun t a b => h1 t a (by omega)) fun t a b => h2 t a (by omega)]
    have := h2 (x + d) (by omega) (by omega)
    simp [this]

/-- The first time at which something is so. -/
theorem first_time {q : Nat → Prop} {x y : Nat} (h : ∃ t, x ≤ t ∧ t < y ∧ q t) : ∃ t, x ≤ t ∧ t < y ∧ q t ∧ ∀ u, x ≤ u → u < t → ¬ q u := by
  obtain ⟨t, h1, h2, h3⟩ := h
  obtain ⟨d, rfl⟩ : ∃ d, t = x + d := ⟨t - x, by omega⟩
  clear h1
  induction d using Nat.strongRecOn with
  | _ d ih =>
    by_cases g : ∃ e, e < d ∧ q (x + e)
    · obtain ⟨e, g1, g2⟩ := g
      exact ih e g1 (by omega) g2
    · exact ⟨x + d, by omega, h2, h3, fun u u1 u2 hu => g ⟨u - x, by omega, by rw [show x + (u - x) = u by omega]; exact hu⟩⟩

/-- A run that exchanges only the first k variables does not come back. -/
theorem run_new (hP : IsP n p.1) {s0 : Nat} (h0 : s0 < 2 ^ n) {f : Nat → Nat} : ∀ k, k ≤ n → ∀ i j, i < j → (∀ t, i ≤ t → t < j → f t < k ∧ ss n p 0 s0 (t + 1) = ss n p 0 s0 t ^^^ 2 ^ f t ∧ (ptOf n p (ss n p 0 s0 t)).getD (f t) 0 < 0 ∧ ∀ c, c < f t → 0 ≤ (ptOf n p (ss n p 0 s0 t)).getD c 0) → ss n p 0 s0 i ≠ ss n p 0 s0 j
  | 0, _, i, j, hij, h => by
    have := (h i (Nat.le_refl i) hij).1
    omega
  | k + 1, hk, i, j, hij, h => fun e => by
    have stay := fun (c x d : Nat) (h1 : i ≤ x) (h2 : x + d ≤ j) (h3 : ∀ t, x ≤ t → t < x + d → f t ≠ c) => bit_stay (n := n) (p := p) (s0 := s0) (c := c) (f := f) (x := x) d (fun t a b => (h t (by omega) (by omega)).2.1) h3
    by_cases hk' : ∃ t, i ≤ t ∧ t < j ∧ f t = k
    · obtain ⟨a, a1, a2, a3, a4⟩ := first_time hk'
      have ha := h a a1 a2
      have ba : (ss n p 0 s0 a).testBit k = (ss n p 0 s0 i).testBit k := by
        have := stay k i (a - i) (Nat.le_refl i) (by omega) fun t t1 t2 => a4 t t1 (by omega)
        rwa [show i + (a - i) = a by omega] at this
      have ba1 : (ss n p 0 s0 (a + 1)).testBit k = !(ss n p 0 s0 a).testBit k := by
        rw [ha.2.1, bit_step, a3]
        simp
      have hk2 : ∃ t, a + 1 ≤ t ∧ t < j ∧ f t = k := Classical.byContradiction fun hn => by
        have := stay k (a + 1) (j - (a + 1)) (by omega) (by omega) fun t t1 t2 g => hn ⟨t, t1, by omega, g⟩
        rw [show a + 1 + (j - (a + 1)) = j by omega, ← e, ba1, ba] at this
        cases hb : (ss n p 0 s0 i).testBit k <;> rw [hb] at this <;> cases this
      obtain ⟨b, b1, b2, b3, b4⟩ := first_time hk2
      have hb := h b (by omega) b2
      have bb : (ss n p 0 s0 b).testBit k = (ss n p 0 s0 (a + 1)).testBit k := by
        have := stay k (a + 1) (b - (a + 1)) (by omega) (by omega) fun t t1 t2 => b4 t t1 (by omega)
        rwa [show a + 1 + (b - (a + 1)) = b by omega] at this
      have hne : (ss n p 0 s0 a).testBit k ≠ (ss n p 0 s0 b).testBit k := by
        rw [bb, ba1]
        cases (ss n p 0 s0 a).testBit k <;> decide
      rw [a3] at ha
      rw [b3] at hb
      have := (P_two hP (ss_lt h0 a) (ss_lt h0 b) (fun c hc => ?_) k (by omega) hne).1
      · omega
      · rcases Nat.lt_trichotomy c k with g | g | g
        · exact .inr (Int.mul_nonneg (ha.2.2.2 c g) (hb.2.2.2 c g))
        · subst g
          exact .inr (Int.le_of_lt (Int.mul_pos_of_neg_of_neg ha.2.2.1 hb.2.2.1))
        · have := stay c a (b - a) a1 (by omega) fun t t1 t2 => by
            have := (h t (by omega) (by omega)).1
            omega
          rw [show a + (b - a) = b by omega] at this
          exact .inl this.symm
    · exact run_new hP h0 k (by omega) i j hij (fun t t1 t2 => by
        obtain ⟨g1, g2⟩ := h t t1 t2
        refine ⟨?_, g2⟩
        have : f t ≠ k := fun g => hk' ⟨t, t1, t2, g⟩
        omega) e

/-- The rule of the least index solves each problem whose matrix has principal minors greater than 0. -/
theorem P_run (hP : IsP n p.1) {s0 : Nat} (h0 : s0 < 2 ^ n) : ∃ k, RunEnd n p 0 s0 k 0 := by
  obtain ⟨k, e, h1, h2⟩ := run_exists (n := n) (p := p) (rule := 0) h0
  refine ⟨k, h1, ?_⟩
  have hD : ∀ j, det n (mAt (colL n p.1 (ss n p 0 s0 j))) ≠ 0 := fun j => P_det hP (ss_lt h0 j)
  have hv : ∀ j, j < k → exV (ptOf n p (ss n p 0 s0 j)) 0 ≠ 0 := fun j hj g => by
    have := h1 j hj
    unfold cls at this
    rw [if_neg (hD j), if_pos g] at this
    split at this <;> cases this
  have hnew : ss n p 0 s0 k ∉ (List.range k).map (ss n p 0 s0) := fun hm => by
    obtain ⟨i, hi, e⟩ := List.mem_map.1 hm
    have hik : i < k := by simpa using hi
    have hex : ∀ t, ∃ m, t < k → m < n ∧ exV (ptOf n p (ss n p 0 s0 t)) 0 = 2 ^ m ∧ (ptOf n p (ss n p 0 s0 t)).getD m 0 < 0 ∧ ∀ c, c < m → 0 ≤ (ptOf n p (ss n p 0 s0 t)).getD c 0 := fun t => by
      by_cases g : t < k
      · obtain ⟨m, g1, g2⟩ := ex0_first (hv t g)
        rw [ptOf_len] at g1
        exact ⟨m, fun _ => ⟨g1, g2⟩⟩
      · exact ⟨0, fun g2 => absurd g2 g⟩
    obtain ⟨f, hf⟩ := Classical.axiomOfChoice hex
    refine run_new hP h0 (f := f) n (Nat.le_refl n) i k hik (fun t t1 t2 => ?_) e
    obtain ⟨g1, g2, g3, g4⟩ := hf t t2
    exact ⟨g1, by rw [ss, stp, g2], g3, g4⟩
  have h2' := h2
  unfold cls at h2' ⊢
  rw [if_neg (hD k), if_neg hnew] at h2' ⊢
  by_cases g : exV (ptOf n p (ss n p 0 s0 k)) 0 = 0
  · rw [if_pos g]
  · rw [if_neg g] at h2'
    cases h2'

end

/-! ### Dominant matrices -/

/-- Each number on the diagonal is greater than all others of its row together. -/
def Dom (n : Nat) (A : Mat) : Prop := ∀ i, i < n → ((nsum n fun j => if j = i then 0 else (A i j).natAbs : Nat) : Int) < A i i

theorem nsum_lin {a c : Nat} {f g : Nat → Nat} : ∀ n, nsum n (fun i => a * f i + c * g i) = a * nsum n f + c * nsum n g
  | 0 => by simp [nsum]
  | n + 1 => by
    simp only [nsum]
    rw [nsum_lin n, Nat.mul_add, Nat.mul_add]
    omega

theorem nsum_first {n : Nat} {g : Nat → Nat} : nsum (n + 1) g = g 0 + nsum n fun j => g (j + 1) := by
  rw [← nsum_skip (k := 0) (Nat.zero_le n) g, Nat.add_comm]
  congr 1

/-- Dominant matrices have a determinant greater than 0. -/
theorem det_dom : ∀ {n : Nat} {A : Mat}, Dom n A → 0 < det n A
  | 0, _, _ => (by decide : (0 : Int) < 1)
  | n + 1, A, h => by
    have ha := h 0 (by omega)
    have a0 : 0 < A 0 0 := by omega
    have hc : Dom n (chio A) := fun i hi => by
      have hr := h (i + 1) (by omega)
      rw [nsum_first] at ha hr
      rw [if_pos rfl, nsum_zero_at hi] at ha
      rw [if_neg (by omega)] at hr
      have e1 : nsum n (fun j => if j + 1 = i + 1 then 0 else (A (i + 1) (j + 1)).natAbs) = nsum n fun j => if j = i then 0 else (A (i + 1) (j + 1)).natAbs := nsum_congr fun j _ => by
        by_cases g : j = i
        · rw [if_pos g, if_pos (by omega)]
        · rw [if_neg g, if_neg (by omega)]
      have e2 : nsum n (fun j => if j = i then 0 else if j + 1 = 0 then 0 else (A 0 (j + 1)).natAbs) = nsum n fun j => if j = i then 0 else (A 0 (j + 1)).natAbs := nsum_congr fun j _ => by
        by_cases g : j = i
        · rw [if_pos g, if_pos g]
        · rw [if_neg g, if_neg g, if_neg (by omega)]
      rw [e1] at hr
      rw [e2, if_neg (by omega)] at ha
      have hle : nsum n (fun j => if j = i then 0 else (chio A i j).natAbs) ≤ (A 0 0).natAbs * nsum n (fun j => if j = i then 0 else (A (i + 1) (j + 1)).natAbs) + (A (i + 1) 0).natAbs * nsum n (fun j => if j = i then 0 else (A 0 (j + 1)).natAbs) := by
        rw [← nsum_lin]
        refine nsum_le fun j _ => ?_
        by_cases g : j = i
        · rw [if_pos g, if_pos g, if_pos g]; omega
        · rw [if_neg g, if_neg g, if_neg g]
          unfold chio
          have := Int.natAbs_sub_le (A 0 0 * A (i + 1) (j + 1)) (A (i + 1) 0 * A 0 (j + 1))
          rw [Int.natAbs_mul, Int.natAbs_mul] at this
          exact this
      have hd : ((A 0 0).natAbs : Int) * A (i + 1) (i + 1) - ((A (i + 1) 0).natAbs : Int) * ((A 0 (i + 1)).natAbs : Int) ≤ chio A i i := by
        unfold chio
        have e3 : ((A 0 0).natAbs : Int) = A 0 0 := by omega
        have e4 : A (i + 1) 0 * A 0 (i + 1) ≤ ((A (i + 1) 0 * A 0 (i + 1)).natAbs : Int) := by omega
        rw [Int.natAbs_mul, Int.natCast_mul] at e4
        rw [e3]
        omega
      generalize nsum n (fun j => if j = i then 0 else (A (i + 1) (j + 1)).natAbs) = R at *
      generalize nsum n (fun j => if j = i then 0 else (A 0 (j + 1)).natAbs) = S at *
      generalize nsum n (fun j => if j = i then 0 else (chio A i j).natAbs) = T at *
      have ea : ((A 0 0).natAbs : Int) = A 0 0 := by omega
      generalize (A (i + 1) 0).natAbs = c at *
      generalize (A 0 (i + 1)).natAbs = b at *
      generalize A (i + 1) (i + 1) = d at *
      generalize (A 0 0).natAbs = a at *
      generalize chio A i i = D at *
      have k1 : (c : Int) * (S + b) ≤ c * a := Int.mul_le_mul_of_nonneg_left (by omega) (by omega)
      have k2 : (a : Int) * (c + R) < a * d := Int.mul_lt_mul_of_pos_left (by omega) (by omega)
      have k3 : (T : Int) ≤ a * R + c * S := by
        have : ((a * R + c * S : Nat) : Int) = (a : Int) * R + c * S := by rw [Int.natCast_add, Int.natCast_mul, Int.natCast_mul]
        omega
      rw [Int.mul_add] at k1 k2
      have k4 : (a : Int) * c = c * a := Int.mul_comm _ _
      omega
    have h1 := det_dom hc
    have h2 := det_chio (n := n) (A := A)
    have h3 := Int.mul_pos a0 h1
    rw [h2] at h3
    exact Int.pos_of_mul_pos_right h3 (Int.pow_pos a0)

theorem idxs_nodup (n s : Nat) : (idxs n s).Nodup := (List.nodup_append.1 (parts_nodup n s)).2.1

/-- Dominant matrices have principal minors greater than 0. -/
theorem dom_P {n : Nat} {m : List (List Int)} (h : Dom n (mAt m)) : IsP n m := fun s _ => by
  unfold minorL
  refine det_dom fun i hi => ?_
  have hat : ∀ a b (ha : a < (idxs n s).length) (hb : b < (idxs n s).length), mAt (partRC n m s s) a b = mAt m (idxs n s)[a] (idxs n s)[b] := fun a b ha hb => by
    rw [mAt_at (by simpa [partRC] using ha) (by simpa [partRC] using hb)]
    simp [partRC]
  have hlt : ∀ a (ha : a < (idxs n s).length), (idxs n s)[a] < n := fun a ha => by
    have := (List.mem_filter.1 (List.getElem_mem ha)).1
    simpa using this
  have hd := h _ (hlt i hi)
  rw [hat i i hi hi]
  have e : nsum (idxs n s).length (fun j => if j = i then 0 else (mAt (partRC n m s s) i j).natAbs) = nsum (idxs n s).length fun j => (fun c => if c = (idxs n s)[i] then 0 else (mAt m (idxs n s)[i] c).natAbs) ((idxs n s).getD j 0) := nsum_congr fun j hj => by
    have e2 : (idxs n s).getD j 0 = (idxs n s)[j] := by simp [hj]
    dsimp only
    rw [e2, hat i j hi hj]
    by_cases g : j = i
    · subst g
      rw [if_pos rfl, if_pos rfl]
    · rw [if_neg g, if_neg fun g2 => g ((List.getElem_inj (idxs_nodup n s)).1 g2)]
  have hle := nsum_inj (p := (idxs n s).length) (N := n) (t := fun j => (idxs n s).getD j 0) (fun a b ha hb e => by
    have e : (idxs n s).getD a 0 = (idxs n s).getD b 0 := e
    rw [show (idxs n s).getD a 0 = (idxs n s)[a] by simp [ha], show (idxs n s).getD b 0 = (idxs n s)[b] by simp [hb]] at e
    exact (List.getElem_inj (idxs_nodup n s)).1 e) (fun a ha => by
    show (idxs n s).getD a 0 < n
    rw [show (idxs n s).getD a 0 = (idxs n s)[a] by simp [ha]]
    exact hlt a ha) (fun c => if c = (idxs n s)[i] then 0 else (mAt m (idxs n s)[i] c).natAbs)
  rw [e]
  dsimp only at hle ⊢
  omega

end Go.Ab
