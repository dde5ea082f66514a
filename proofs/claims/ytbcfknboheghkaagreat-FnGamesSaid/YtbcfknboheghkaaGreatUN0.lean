/- Unit mixes at pure equilibria are equilibria, of the game with the players exchanged too. No condition. -/
import Derived.Test.YtbcfknboheghkaaGreatPE0
namespace Go.Proofs.YtbcfknboheghkaaGreat
open Go.Ab

def unitF (n i : Nat) : List Frac := (List.range n).map fun k => if k = i then ((1, 1) : Frac) else (0, 1)
def unitI (n i : Nat) : List Int := (List.range n).map fun k => if k = i then 1 else 0

theorem unitF_at {n i k : Nat} (h : k < n) : (unitF n i).getD k (0, 1) = if k = i then ((1, 1) : Frac) else (0, 1) := by
  simp [unitF, List.getD_eq_getElem?_getD, h]

theorem unitI_at {n i k : Nat} (h : k < n) : (unitI n i).getD k 0 = if k = i then 1 else 0 := by
  simp [unitI, List.getD_eq_getElem?_getD, h]

theorem unitF_len (n i : Nat) : (unitF n i).length = n := by simp [unitF]
theorem unitI_len (n i : Nat) : (unitI n i).length = n := by simp [unitI]

theorem unitF_frs (n i : Nat) : Frs (unitF n i) := by
  intro a ha
  obtain ⟨k, _, rfl⟩ := List.mem_map.1 ha
  split <;> decide +kernel

theorem unitF_to (n i : Nat) : ∀ m, m ≤ n → comTo (unitF n i) m = 1
  | 0, _ => rfl
  | m + 1, h => by
    show comStep (comTo (unitF n i) m) _ = 1
    rw [unitF_to n i m (by omega), unitF_at (by omega)]
    split <;> decide +kernel

theorem unitF_num (n i : Nat) : (unitF n i).map (comNum 1) = unitI n i := by
  unfold unitF unitI
  rw [List.map_map]
  refine List.map_congr_left fun k _ => ?_
  show comNum 1 (if k = i then ((1, 1) : Frac) else (0, 1)) = _
  by_cases h : k = i
  · rw [if_pos h, if_pos h]; decide +kernel
  · rw [if_neg h, if_neg h]; decide +kernel

theorem unitI_sum {n i : Nat} (h : i < n) : (unitI n i).sum = 1 := by
  have key : ∀ m, (unitI m i).sum = if i < m then 1 else 0 := by
    intro m
    induction m with
    | zero => simp [unitI]
    | succ m ih =>
      have e : unitI (m + 1) i = unitI m i ++ [if m = i then 1 else 0] := by unfold unitI; rw [List.range_succ, List.map_append]; rfl
      rw [e, List.sum_append, ih]
      by_cases h1 : i < m
      · have h2 : ¬ m = i := by omega
        rw [if_pos h1, if_neg h2, if_pos (show i < m + 1 by omega)]
        rfl
      · rw [if_neg h1]
        by_cases h2 : m = i
        · rw [if_pos h2, if_pos (show i < m + 1 by omega)]
          rfl
        · rw [if_neg h2, if_neg (show ¬ i < m + 1 by omega)]
          rfl
  rw [key, if_pos h]

theorem unit_mix {n i : Nat} (h : i < n) : mixN (unitF n i) n = some (unitI n i, 1) := by
  classical
  have ht : tog 1000000000 1000000000000 (unitF n i) = some (unitI n i, 1) := by
    unfold tog
    have e1 : comTo (unitF n i) (unitF n i).length = 1 := unitF_to n i _ (Nat.le_of_eq (unitF_len n i))
    have e2 : okDen 1000000000 (unitF n i) ∧ okNum 1000000000000 (comTo (unitF n i) (unitF n i).length) (unitF n i) := by
      refine ⟨fun k hk => ?_, fun a ha => ?_⟩
      · rw [unitF_len] at hk
        rw [unitF_to n i _ (by omega)]
        decide
      · rw [e1]
        obtain ⟨k, _, rfl⟩ := List.mem_map.1 ha
        split <;> decide +kernel
    rw [if_pos e2, e1, unitF_num]
  unfold mixN
  rw [if_pos ⟨unitF_len n i, unitF_frs n i⟩, ht]
  refine if_pos ⟨fun a ha => ?_, unitI_sum h⟩
  obtain ⟨k, _, rfl⟩ := List.mem_map.1 ha
  split <;> decide

theorem unit_rep {n i : Nat} {gains : List Int} (h : i < n) : repOk (unitI n i) gains ↔ ∀ x ∈ gains, x ≤ gains.getD i 0 := by
  constructor
  · intro q
    exact q i (by rw [unitI_len]; exact h) (by rw [unitI_at h, if_pos rfl]; decide)
  · intro q k hk hp
    rw [unitI_len] at hk
    rw [unitI_at hk] at hp
    by_cases e : k = i
    · subst e; exact q
    · rw [if_neg e] at hp
      exact absurd hp (by decide)

theorem sum_unit {f : Nat → Int} {n i : Nat} : ∀ m, m ≤ n → sumTo (fun k => f k * (unitI n i).getD k 0) m = if i < m then f i else 0
  | 0, _ => by simp [sumTo]
  | m + 1, h => by
    show sumTo _ m + f m * (unitI n i).getD m 0 = _
    rw [sum_unit m (by omega), unitI_at (by omega)]
    by_cases h1 : i < m
    · rw [if_pos h1, if_neg (by omega), if_pos (by omega)]; omega
    · rw [if_neg h1]
      by_cases h2 : m = i
      · subst h2; rw [if_pos rfl, if_pos (by omega)]; omega
      · rw [if_neg h2, if_neg (by omega)]; omega

theorem dot_unit {r : List Int} {n i : Nat} (hl : r.length = n) (h : i < n) : dot r (unitI n i) = r.getD i 0 := by
  have := sum_unit (f := fun k => r.getD k 0) (n := n) (i := i) n (Nat.le_refl _)
  rw [if_pos h] at this
  unfold dot
  rw [hl, ← this]

theorem gainsA_unit {g : Game} (hg : IsGm g) {j : Nat} (hj : j < lw g) : gainsA g (unitI (lw g) j) = (List.range g.1.length).map fun i => mAt g.1 i j := by
  unfold gainsA
  apply List.ext_getElem
  · simp
  · intro i h1 h2
    have hi : i < g.1.length := by simpa using h2
    simp only [List.getElem_map, List.getElem_range]
    rw [dot_unit (hg.a _ (List.getElem_mem hi)).1 hj]
    unfold mAt
    rw [getD_row hi]

theorem gainsB_unit {g : Game} {i : Nat} (hi : i < g.1.length) : gainsB g (unitI g.1.length i) = (List.range (lw g)).map fun j => mAt g.2 i j := by
  unfold gainsB
  refine List.map_congr_left fun j _ => ?_
  unfold gainB
  rw [sum_unit (f := fun k => mAt g.2 k j) _ (Nat.le_refl _), if_pos hi]

theorem pure_facts {g : Game} {i j : Nat} (h : pureB g i j = true) : (∀ k, k < g.1.length → mAt g.1 k j ≤ mAt g.1 i j) ∧ ∀ k, k < lw g → mAt g.2 i k ≤ mAt g.2 i j := by
  unfold pureB at h
  rw [Bool.and_eq_true] at h
  unfold goodA goodB at h
  rw [List.all_eq_true, List.all_eq_true] at h
  exact ⟨fun k hk => of_decide_eq_true (h.1 k (by simpa using hk)), fun k hk => of_decide_eq_true (h.2 k (by simpa using hk))⟩

theorem range_most {n i : Nat} {f : Nat → Int} (hi : i < n) (h : ∀ k, k < n → f k ≤ f i) : ∀ x ∈ (List.range n).map f, x ≤ ((List.range n).map f).getD i 0 := by
  intro x hx
  obtain ⟨k, hk, rfl⟩ := List.mem_map.1 hx
  have e : ((List.range n).map f).getD i 0 = f i := by simp [List.getD_eq_getElem?_getD, hi]
  rw [e]
  exact h k (by simpa using hk)

theorem pure_ie {g : Game} (hg : IsGm g) {i j : Nat} (hi : i < g.1.length) (hj : j < lw g) (h : pureB g i j = true) : ieRes g (unitF g.1.length i) (unitF (lw g) j) = (true, 0) := by
  classical
  obtain ⟨h1, h2⟩ := pure_facts h
  unfold ieRes
  rw [if_pos hg, unit_mix hi, unit_mix hj]
  refine Prod.ext (@decide_eq_true _ _ ?_) rfl
  rw [gainsA_unit hg hj, gainsB_unit hi, unit_rep hi, unit_rep hj]
  exact ⟨range_most hi h1, range_most hj h2⟩

/-! ### The players exchanged -/

theorem turnL_at {k l i j : Nat} {T : List (List Int)} (hi : i < k) (hj : j < l) : mAt (turnL k l T) j i = mAt T i j := by
  show ((turnL k l T).getD j []).getD i 0 = _
  unfold turnL
  rw [getD_row (by simp; omega)]
  simp only [List.getElem_map, List.getElem_range]
  rw [getD_at (by simp; omega)]
  simp only [List.getElem_map, List.getElem_range]

theorem turnL_ok {k l : Nat} {T : List (List Int)} (hk : T.length = k) (h : ∀ r ∈ T, r.length = l ∧ ∀ x ∈ r, 1 ≤ x ∧ x ≤ 20) : ∀ r ∈ turnL k l T, r.length = k ∧ ∀ x ∈ r, 1 ≤ x ∧ x ≤ 20 := by
  intro r hr
  unfold turnL at hr
  obtain ⟨j, hj, rfl⟩ := List.mem_map.1 hr
  have hj : j < l := by simpa using hj
  refine ⟨by simp, fun x hx => ?_⟩
  obtain ⟨i, hi, rfl⟩ := List.mem_map.1 hx
  have hi : i < T.length := by have : i < k := by simpa using hi
                               omega
  obtain ⟨e1, e2⟩ := h _ (List.getElem_mem hi)
  unfold mAt
  rw [getD_row hi, getD_at (by omega)]
  exact e2 _ (List.getElem_mem _)

abbrev xpG (g : Game) : Game := (turnL g.1.length (lw g) g.2, turnL g.1.length (lw g) g.1)

theorem xp_lens {g : Game} (hg : IsGm g) : (xpG g).1.length = lw g ∧ lw (xpG g) = g.1.length := by
  have l1 := hg.l1
  refine ⟨by simp [xpG, turnL], ?_⟩
  unfold lw
  rw [getD_row (by simp [xpG, turnL]; exact l1)]
  simp [xpG, turnL]

theorem xp_game {g : Game} (hg : IsGm g) : IsGm (xpG g) := by
  obtain ⟨e1, e2⟩ := xp_lens hg
  have k1 := hg.k1
  have k4 := hg.k4
  have l1 := hg.l1
  have l4 := hg.l4
  have kl := hg.kl
  refine ⟨by omega, by omega, by omega, by omega, by omega, by simp [xpG, turnL], ?_, ?_⟩
  · rw [e2]; exact turnL_ok hg.bl hg.b
  · rw [e2]; exact turnL_ok rfl hg.a

theorem pure_back {g : Game} (hg : IsGm g) {i j : Nat} (hi : i < g.1.length) (hj : j < lw g) (h : pureB g i j = true) : ieRes (xpG g) (unitF (lw g) j) (unitF g.1.length i) = (true, 0) := by
  obtain ⟨e1, e2⟩ := xp_lens hg
  obtain ⟨h1, h2⟩ := pure_facts h
  have := pure_ie (xp_game hg) (i := j) (j := i) (by omega) (by omega) (by
    unfold pureB
    rw [Bool.and_eq_true]
    unfold goodA goodB
    rw [List.all_eq_true, List.all_eq_true]
    refine ⟨fun k hk => decide_eq_true ?_, fun k hk => decide_eq_true ?_⟩
    · have hk : k < lw g := by have := List.mem_range.1 hk
                               omega
      show mAt (turnL _ _ g.2) k i ≤ mAt (turnL _ _ g.2) j i
      rw [turnL_at hi hk, turnL_at hi hj]
      exact h2 k hk
    · have hk : k < g.1.length := by have := List.mem_range.1 hk
                                     omega
      show mAt (turnL _ _ g.1) j k ≤ mAt (turnL _ _ g.1) j i
      rw [turnL_at hk hj, turnL_at hi hj]
      exact h1 k hk)
  rw [e1, e2] at this
  exact this

/-- What is among the pure equilibria. -/
theorem pureTo_mem {g : Game} {r : List Int} {m : Nat} (h : r ∈ pureTo g m) : ∃ i j, i < m ∧ j < lw g ∧ pureB g i j = true ∧ r = [((i : Nat) : Int), ((j : Nat) : Int)] := by
  unfold pureTo at h
  obtain ⟨i, hi, hr⟩ := List.mem_flatMap.1 h
  unfold pureRow at hr
  obtain ⟨j, hj, rfl⟩ := List.mem_map.1 hr
  obtain ⟨h1, h2⟩ := List.mem_filter.1 hj
  exact ⟨i, j, by simpa using hi, by simpa using h1, h2, rfl⟩

end Go.Proofs.YtbcfknboheghkaaGreat
