/- Columns in another order. No program here. -/
import Derived.Test.YtbcfknboheghkaaGreatZabG9
import Derived.Test.YtbcfknboheghkaaGreatZabPerm
namespace Go.Ab

theorem det_tcol {n c d : Nat} {A : Mat} (hc : c < n) (hd : d < n) : (det n (fun i j => A i (tr c d j))).natAbs = (det n A).natAbs := by
  by_cases hcd : c = d
  · subst hcd
    have e : det n (fun i j => A i (tr c c j)) = det n A := det_congr fun i j _ _ => by
      have : tr c c j = j := by unfold tr; split <;> (try split) <;> omega
      rw [this]
    rw [e]
  · have h2 : det n (fun i j => A i (tr c d j)) = det n (fun i j => (fun r s => A s r) (tr c d i) j) := by
      rw [← det_turn (A := fun i j => A i (tr c d j))]
    rw [h2, det_trow (A := fun r s => A s r) hc hd hcd, det_turn, Int.natAbs_neg]

theorem det_pc {n : Nat} : ∀ m, m ≤ n → ∀ (A : Mat) (σ : Nat → Nat), Inj n σ → (∀ i, i < n → σ i < n) → (∀ i, m ≤ i → i < n → σ i = i) → (det n (fun i j => A i (σ j))).natAbs = (det n A).natAbs
  | 0, _, A, σ, _, _, h => by
    have e : det n (fun i j => A i (σ j)) = det n A := det_congr fun i j hi hj => by rw [h j (Nat.zero_le _) hj]
    rw [e]
  | m + 1, hm, A, σ, hinj, hlt, h => by
    have hk := hlt m (by omega)
    have hkm : σ m ≤ m := by
      rcases Nat.lt_or_ge m (σ m) with g | g
      · have := hinj (σ m) m hk (by omega) (h (σ m) (by omega) hk)
        omega
      · exact g
    have ih := det_pc m (by omega) (fun r c => A r (tr (σ m) m c)) (fun i => tr (σ m) m (σ i)) (fun i j hi hj e => by
        refine hinj i j hi hj ?_
        have e : tr (σ m) m (σ i) = tr (σ m) m (σ j) := e
        rw [← tr_tr (σ m) m (σ i), e, tr_tr]) (fun i hi => tr_lt hk (by omega) (hlt i hi)) (fun i hi hin => by
        show tr (σ m) m (σ i) = i
        by_cases e : i = m
        · subst e
          unfold tr
          rw [if_pos rfl]
        · rw [h i (by omega) hin]
          unfold tr
          rw [if_neg (by omega), if_neg e])
    simp only [tr_tr] at ih
    rw [ih, det_tcol hk (by omega)]

/-- Two of more than N numbers below N are alike. -/
theorem pigeon2 (N : Nat) (c : Nat → Nat) (h : ∀ i, c i < N) : ∃ i j, i < j ∧ c i = c j := by
  refine Classical.byContradiction fun hno => ?_
  have hn : ((List.range (N + 1)).map c).Nodup := by
    rw [List.nodup_iff_pairwise_ne, List.pairwise_map]
    refine List.Pairwise.imp (R := fun a b => a < b) (fun {a b} hab e => hno ⟨a, b, hab, e⟩) List.pairwise_lt_range
  have := pigeon N _ hn fun x hx => by
    obtain ⟨i, _, rfl⟩ := List.mem_map.1 hx
    exact h i
  simp at this
  omega

/-- A number below n that none of n different numbers below n is: there is none. -/
theorem inj_all {n : Nat} {f : Nat → Nat} (hi : Inj n f) (hl : ∀ k, k < n → f k < n) {x : Nat} (hx : x < n) : ∃ k, k < n ∧ f k = x := by
  refine Classical.byContradiction fun hno => ?_
  have hnd : (x :: (List.range n).map f).Nodup := by
    rw [List.nodup_cons]
    refine ⟨fun hm => ?_, ?_⟩
    · obtain ⟨k, hk, e⟩ := List.mem_map.1 hm
      exact hno ⟨k, by simpa using hk, e⟩
    · rw [List.nodup_iff_pairwise_ne, List.pairwise_map]
      refine List.Pairwise.imp_of_mem (R := fun a b => a < b) (fun {a b} ha hb hab e => ?_) List.pairwise_lt_range
      have := hi a b (by simpa using ha) (by simpa using hb) e
      omega
  have := pigeon n _ hnd fun y hy => by
    rcases List.mem_cons.1 hy with e | hy
    · rw [e]; exact hx
    · obtain ⟨k, hk, rfl⟩ := List.mem_map.1 hy
      exact hl k (by simpa using hk)
  simp at this
  omega

end Go.Ab
