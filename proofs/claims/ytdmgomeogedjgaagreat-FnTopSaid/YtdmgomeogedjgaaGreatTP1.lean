/- The matrix that FnTop makes is dominant; its problem is one. No condition. -/
import Derived.Test.YtdmgomeogedjgaaGreatGAB
import Derived.Test.YtdmgomeogedjgaaGreatGVV
import Derived.Test.YtdmgomeogedjgaaGreatZabMurty
namespace Go.Proofs.YtdmgomeogedjgaaGreat
open Go.Ab

/-- A row of the matrix. -/
def TopRow (n i : Nat) (r : List Int) : Prop := r.length = n ∧ r.getD i 0 = 1 + ((nsum n fun j => if j = i then 0 else (r.getD j 0).natAbs : Nat) : Int) ∧ ∀ j, j < n → j ≠ i → (r.getD j 0).natAbs ≤ 2

theorem top_row {n i : Nat} {r : List Int} {total : Int} (hi : i < n) (hl : r.length = n) (h0 : r.getD i 0 = 0) (hb : ∀ j, j < n → (r.getD j 0).natAbs ≤ 2) (ht : total = 1 + ((nsum n fun j => (r.getD j 0).natAbs : Nat) : Int)) : TopRow n i (r.set i total) := by
  have ne : ∀ j, j ≠ i → (r.set i total).getD j 0 = r.getD j 0 := fun j hj => by
    simp only [List.getD_eq_getElem?_getD]
    rw [List.getElem?_set_ne fun e => hj e.symm]
  have eq : (r.set i total).getD i 0 = total := by
    simp only [List.getD_eq_getElem?_getD]
    rw [List.getElem?_set_self (by omega)]
    rfl
  refine ⟨by rw [List.length_set]; exact hl, ?_, fun j hj hji => by rw [ne j hji]; exact hb j hj⟩
  have e1 := nsum_zero_at hi fun j => (r.getD j 0).natAbs
  have e2 : nsum n (fun j => if j = i then 0 else ((r.set i total).getD j 0).natAbs) = nsum n fun j => if j = i then 0 else (r.getD j 0).natAbs := nsum_congr fun j _ => by
    by_cases g : j = i
    · rw [if_pos g, if_pos g]
    · rw [if_neg g, if_neg g, ne j g]
  rw [eq, e2, ht, e1, h0]
  simp

theorem top_dom {n : Nat} {m : List (List Int)} (hm : m.length = n) (h : ∀ i (hi : i < m.length), TopRow n i m[i]) : Dom n (mAt m) := fun i hi => by
  obtain ⟨h1, h2, _⟩ := h i (by omega)
  have e : ∀ j, mAt m i j = m[i].getD j 0 := fun j => by
    unfold mAt
    rw [show m.getD i [] = m[i] by simp [List.getElem?_eq_getElem (show i < m.length by omega)]]
  have e2 : nsum n (fun j => if j = i then 0 else (mAt m i j).natAbs) = nsum n fun j => if j = i then 0 else (m[i].getD j 0).natAbs := nsum_congr fun j _ => by rw [e j]
  rw [e2, e i, h2]
  omega

theorem isSq_rows {n : Nat} {m : List (List Int)} : isSq n m = true ↔ m.length = n ∧ ∀ r ∈ m, r.length = n := by
  simp [isSq, List.all_eq_true]

theorem top_prob {n : Nat} {m : List (List Int)} {q : List Int} (hn : 1 ≤ n ∧ n ≤ 4) (hm : m.length = n) (h : ∀ i (hi : i < m.length), TopRow n i m[i]) (hq : q.length = n) (hqb : ∀ x ∈ q, x.natAbs ≤ 10) : isProb (m, q) = true := by
  have hrow : ∀ r ∈ m, r.length = n ∧ ∀ x ∈ r, x.natAbs ≤ 9 := fun r hr => by
    obtain ⟨i, hi, rfl⟩ := List.mem_iff_getElem.1 hr
    obtain ⟨h1, h2, h3⟩ := h i hi
    refine ⟨h1, fun x hx => ?_⟩
    obtain ⟨j, hj, rfl⟩ := List.mem_iff_getElem.1 hx
    have ej : m[i].getD j 0 = m[i][j] := by simp [List.getElem?_eq_getElem hj]
    rw [← ej]
    by_cases g : j = i
    · subst g
      rw [h2]
      have hle := nsum_const (n := n) (B := 2) (f := fun k => if k = j then 0 else (m[j].getD k 0).natAbs) fun k hk => by
        by_cases g : k = j
        · rw [if_pos g]; omega
        · rw [if_neg g]; exact h3 k hk g
      omega
    · have := h3 j (by omega) g
      omega
  unfold isProb isMat
  rw [Bool.and_eq_true, Bool.and_eq_true, Bool.and_eq_true, Bool.and_eq_true]
  refine ⟨⟨⟨⟨inR_iff.2 (by show (1 : Int) ≤ (m.length : Nat) ∧ ((m.length : Nat) : Int) ≤ 5; omega), isSq_rows.2 ⟨rfl, fun r hr => by rw [(hrow r hr).1, hm]⟩⟩, List.all_eq_true.2 fun r hr => List.all_eq_true.2 fun x hx => inR_iff.2 (by have := (hrow r hr).2 x hx; omega)⟩, decide_eq_true (by show q.length = m.length; omega)⟩, List.all_eq_true.2 fun x hx => inR_iff.2 (by have := hqb x hx; omega)⟩

end Go.Proofs.YtdmgomeogedjgaaGreat
