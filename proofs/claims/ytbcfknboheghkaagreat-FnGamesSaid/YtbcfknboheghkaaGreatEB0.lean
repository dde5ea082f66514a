/- Equilibria by sets: the plain law. No condition. -/
import Derived.Test.YtbcfknboheghkaaGreatGGM
import Derived.Test.YtbcfknboheghkaaGreatONL
import Derived.Test.YtbcfknboheghkaaGreatGNN
import Derived.Test.YtbcfknboheghkaaGreatA7
import Derived.Test.YtbcfknboheghkaaGreatZabG9
namespace Go.Proofs.YtbcfknboheghkaaGreat
open Go.Ab

theorem gm_pb {g : Game} (h : IsGm g) : PB (nG g) (gmP g) := by
  have k1 := h.k1; have l1 := h.l1
  refine ⟨tabL_sq _ _, by simp [gmP], by show 0 < g.1.length + lw g; omega, h.kl, fun r c => ?_, fun e he => ?_⟩
  · have all : ∀ row ∈ tabL (nG g) (gmE g), ∀ x ∈ row, x.natAbs ≤ 20 := fun row hrow x hx => by
      obtain ⟨a, _, rfl⟩ := List.mem_map.1 hrow
      obtain ⟨b, _, rfl⟩ := List.mem_map.1 hx
      exact gmE_abs h a b
    show (mAt (tabL (nG g) (gmE g)) r c).natAbs ≤ 20
    simp only [mAt, List.getD_eq_getElem?_getD]
    cases e1 : (tabL (nG g) (gmE g))[r]? with
    | none => simp
    | some row =>
      simp only [Option.getD_some]
      cases e2 : row[c]? with
      | none => simp
      | some x => exact all row (List.mem_of_getElem? e1) x (List.mem_of_getElem? e2)
  · rw [(List.mem_replicate.1 he).2]
    decide

def eqB (n : Nat) (p : Prob) (s : Nat) : Bool := decide (det n (mAt (colL n p.1 s)) ≠ 0) && (ptOf n p s).all (fun x => decide (0 ≤ x))
theorem eqB_of {n : Nat} {p : Prob} {s : Nat} (h : det n (mAt (colL n p.1 s)) ≠ 0) : eqB n p s = (ptOf n p s).all (fun x => decide (0 ≤ x)) := by
  unfold eqB
  rw [decide_eq_true h, Bool.true_and]
theorem eqB_no {n : Nat} {p : Prob} {s : Nat} (h : det n (mAt (colL n p.1 s)) = 0) : eqB n p s = false := by
  unfold eqB
  rw [decide_eq_false (fun g => g h), Bool.false_and]

def eqZ (g : Game) (s : Nat) : List Int := onlyL (nG g) (ptOf (nG g) (gmP g) s) s
theorem eqZ_len (g : Game) (s : Nat) : (eqZ g s).length = nG g := by simp [eqZ, onlyL]

def eqStep (g : Game) (s : Nat) (out : List (List Frac)) : List (List Frac) × Int :=
  if eqB (nG g) (gmP g) s = true then (if (eqZ g s).sum = 0 then (out, 0) else if (mixV g.1.length (eqZ g s)).2 = 0 then (if (out.any fun o => decide ((mixV g.1.length (eqZ g s)).1 = o)) = true then (out, 0) else (out ++ [(mixV g.1.length (eqZ g s)).1], 0)) else ([], (mixV g.1.length (eqZ g s)).2)) else (out, 0)

def eqTo (g : Game) : Nat → List (List Frac) × Int
  | 0 => ([], 0)
  | m + 1 => if (eqTo g m).2 = 0 then eqStep g (m + 1) (eqTo g m).1 else eqTo g m

theorem eqTo_bad {g : Game} {m : Nat} (h : (eqTo g m).2 ≠ 0) : ∀ k, eqTo g (m + k) = eqTo g m
  | 0 => rfl
  | k + 1 => by
    show (if (eqTo g (m + k)).2 = 0 then eqStep g (m + k + 1) (eqTo g (m + k)).1 else eqTo g (m + k)) = _
    rw [eqTo_bad h k, if_neg h]

noncomputable def eqRes (g : Game) : List (List Frac) × Int := open Classical in if IsGm g then eqTo g (2 ^ nG g - 1) else ([], 1)

theorem eqTo_len (g : Game) : ∀ m, (eqTo g m).1.length ≤ m ∧ ∀ e ∈ (eqTo g m).1, e.length ≤ nG g
  | 0 => by simp [eqTo]
  | m + 1 => by
    obtain ⟨h1, h2⟩ := eqTo_len g m
    show ((if (eqTo g m).2 = 0 then eqStep g (m + 1) (eqTo g m).1 else eqTo g m)).1.length ≤ m + 1 ∧ ∀ e ∈ ((if (eqTo g m).2 = 0 then eqStep g (m + 1) (eqTo g m).1 else eqTo g m)).1, e.length ≤ nG g
    split
    · unfold eqStep
      split
      · split
        · exact ⟨by simp only; omega, h2⟩
        · split
          · split
            · exact ⟨by simp only; omega, h2⟩
            · refine ⟨by simp; omega, fun e he => ?_⟩
              rcases List.mem_append.1 he with he | he
              · exact h2 e he
              · simp at he
                subst he
                have := mixV_len g.1.length (eqZ g (m + 1))
                rw [eqZ_len] at this
                exact this
          · simp
      · exact ⟨by simp only; omega, h2⟩
    · exact ⟨by omega, h2⟩

/-! ### Sums -/
theorem onlyL_at {n : Nat} {l : List Int} {s i : Nat} (h : i < (onlyL n l s).length) : (onlyL n l s)[i] = if s.testBit i then l.getD i 0 else 0 := by simp [onlyL]

theorem eqZ_pos {g : Game} {s : Nat} (hf : ∀ x ∈ ptOf (nG g) (gmP g) s, 0 ≤ x) : ∀ x ∈ eqZ g s, 0 ≤ x := fun x hx => by
  obtain ⟨i, hi, rfl⟩ := List.mem_map.1 hx
  split
  · rw [List.getD_eq_getElem?_getD]
    cases e : (ptOf (nG g) (gmP g) s)[i]? with
    | none => simp
    | some y => exact hf y (List.mem_of_getElem? e)
  · exact Int.le_refl _

/-- A row of the set has a number of the other part that is not 0. -/
theorem eq_other {g : Game} (hg : IsGm g) {s r : Nat} (hr : r < nG g) (hb : s.testBit r = true) (hD : det (nG g) (mAt (colL (nG g) (gmP g).1 s)) ≠ 0) :
    ∃ c, c < nG g ∧ s.testBit c = true ∧ (ptOf (nG g) (gmP g) s).getD c 0 ≠ 0 ∧ ((r < g.1.length ∧ g.1.length ≤ c) ∨ (g.1.length ≤ r ∧ c < g.1.length)) := by
  apply Classical.byContradiction
  intro hno
  have hrow := solve_row (q := (gmP g).2) (colL_sq (nG g) (gmP g).1 s) hr
  rw [sumTo_zero fun c hc => ?_] at hrow
  · have hq : (gmP g).2.getD r 0 = 1 := by
      show (List.replicate (nG g) (1 : Int)).getD r 0 = 1
      simp [List.getD_eq_getElem?_getD, List.getElem?_replicate, hr]
    rw [hq, Int.one_mul] at hrow
    exact hD hrow.symm
  · rw [colL_at hr hc]
    unfold colE
    by_cases hcb : s.testBit c = true
    · rw [if_pos hcb]
      have hm : mAt (gmP g).1 r c = gmE g r c := tabL_at hr hc
      rw [hm]
      by_cases hpart : (r < g.1.length ∧ g.1.length ≤ c) ∨ (g.1.length ≤ r ∧ c < g.1.length)
      · have hz : (ptOf (nG g) (gmP g) s).getD c 0 = 0 := Classical.byContradiction fun hne => hno ⟨c, hc, hcb, hne, hpart⟩
        have e : (ptOf (nG g) (gmP g) s).getD c 0 = sgI (det (nG g) (mAt (colL (nG g) (gmP g).1 s))) * (solveL (nG g) (colL (nG g) (gmP g).1 s) (gmP g).2).getD c 0 := by
          have h1 := ptOf_len (n := nG g) (p := gmP g) s
          have h2 := solveL_len (nG g) (colL (nG g) (gmP g).1 s) (gmP g).2
          rw [atD (by omega), atD (by omega)]
          simp [ptOf, pointL]
        rw [hz] at e
        have hs : sgI (det (nG g) (mAt (colL (nG g) (gmP g).1 s))) ≠ 0 := by
          unfold sgI
          split
          · decide
          · rw [if_pos (by omega)]; decide
        have : (solveL (nG g) (colL (nG g) (gmP g).1 s) (gmP g).2).getD c 0 = 0 := (Int.mul_eq_zero.1 e.symm).resolve_left hs
        rw [this, Int.mul_zero]
      · have : gmE g r c = 0 := by
          unfold gmE
          rw [if_neg (fun q => hpart (.inl q)), if_neg (fun q => hpart (.inr q))]
        rw [this]
        simp
    · rw [if_neg hcb, if_neg (fun e => hcb (by rw [← e]; exact hb)), Int.zero_mul]

theorem eq_parts {g : Game} (hg : IsGm g) {s : Nat} (hD : det (nG g) (mAt (colL (nG g) (gmP g).1 s)) ≠ 0) (hf : ∀ x ∈ ptOf (nG g) (gmP g) s, 0 ≤ x) (ht : (eqZ g s).sum ≠ 0) :
    ((eqZ g s).take g.1.length).sum ≠ 0 ∧ ((eqZ g s).drop g.1.length).sum ≠ 0 := by
  have hz := eqZ_pos hf
  have hl := eqZ_len g s
  have at_ : ∀ i (hi : i < (eqZ g s).length), (eqZ g s)[i] = if s.testBit i then (ptOf (nG g) (gmP g) s).getD i 0 else 0 := fun i hi => onlyL_at hi
  have two : ∀ i (hi : i < (eqZ g s).length), (eqZ g s)[i] ≠ 0 → ∃ c, ∃ hc : c < (eqZ g s).length, (eqZ g s)[c] ≠ 0 ∧ ((i < g.1.length ∧ g.1.length ≤ c) ∨ (g.1.length ≤ i ∧ c < g.1.length)) := fun i hi hne => by
    have hb : s.testBit i = true := by
      cases hb : s.testBit i with
      | true => rfl
      | false => rw [at_ i hi, hb] at hne; exact absurd rfl hne
    obtain ⟨c, h1, h2, h3, h4⟩ := eq_other hg (by omega) hb hD
    exact ⟨c, by omega, by rw [at_, if_pos h2]; exact h3, h4⟩
  have lo : ∀ i (hi : i < (eqZ g s).length), (eqZ g s)[i] ≠ 0 → i < g.1.length → ((eqZ g s).take g.1.length).sum ≠ 0 := fun i hi hne hk =>
    sum_pos (fun x hx => hz x (List.mem_of_mem_take hx)) ⟨_, List.mem_take_iff_getElem.2 ⟨i, by omega, rfl⟩, hne⟩
  have hi : ∀ i (hi : i < (eqZ g s).length), (eqZ g s)[i] ≠ 0 → g.1.length ≤ i → ((eqZ g s).drop g.1.length).sum ≠ 0 := fun i hi hne hk =>
    sum_pos (fun x hx => hz x (List.mem_of_mem_drop hx)) ⟨(eqZ g s)[i], List.mem_iff_getElem.2 ⟨i - g.1.length, by simp; omega, by simp [show g.1.length + (i - g.1.length) = i by omega]⟩, hne⟩
  obtain ⟨x, hx, hne⟩ := sum_some ht
  obtain ⟨i, hil, rfl⟩ := List.mem_iff_getElem.1 hx
  obtain ⟨c, hc, hcne, hpart⟩ := two i hil hne
  rcases hpart with ⟨h1, h2⟩ | ⟨h1, h2⟩
  · exact ⟨lo i hil hne h1, hi c hc hcne h2⟩
  · exact ⟨lo c hc hcne h2, hi i hil hne h1⟩

theorem ptOf_abs2 {n : Nat} {p : Prob} (hpb : PB n p) (s : Nat) : ∀ x ∈ ptOf n p s, x.natAbs ≤ 1920000000 := fun x hx => by
  unfold ptOf pointL at hx
  obtain ⟨y, hy, rfl⟩ := List.mem_map.1 hx
  have h1 := solve_leib s hpb.n5 hpb.m hpb.q y hy
  have h2 := mulA (sgI_abs (det n (mAt (colL n p.1 s)))) h1
  omega

theorem eqZ_abs {g : Game} (hg : IsGm g) (s : Nat) : ∀ x ∈ eqZ g s, x.natAbs ≤ 1920000000 := fun x hx => by
  obtain ⟨i, hi, rfl⟩ := List.mem_map.1 hx
  split
  · rw [List.getD_eq_getElem?_getD]
    cases e : (ptOf (nG g) (gmP g) s)[i]? with
    | none => simp
    | some y => exact ptOf_abs2 (gm_pb hg) s y (List.mem_of_getElem? e)
  · decide

end Go.Proofs.YtbcfknboheghkaaGreat
