/- Lists that have the numbers 0 to n - 1, each once. -/
namespace Go.Ab

def isOrd (n : Nat) (l : List Int) : Bool := decide (l.length = n) && (List.range n).all (fun i => l.contains (i : Int))

theorem ord_le : ∀ (n : Nat) (l : List Int), l.Nodup → (∀ x ∈ l, 0 ≤ x ∧ x < n) → l.length ≤ n
  | 0, l, _, h => by
    cases l with
    | nil => simp
    | cons x l => have := h x (by simp); omega
  | n + 1, l, hn, h => by
    by_cases hm : (n : Int) ∈ l
    · have h1 := ord_le n (l.erase n) (hn.erase _) fun x hx => by
        have hne : x ≠ n := fun e => by rw [e] at hx; exact (hn.not_mem_erase) hx
        have := h x (List.mem_of_mem_erase hx)
        omega
      rw [List.length_erase_of_mem hm] at h1
      omega
    · have h1 := ord_le n l hn fun x hx => by
        have hne : x ≠ n := fun e => hm (e ▸ hx)
        have := h x hx
        omega
      omega

theorem ord_of_has : ∀ (n : Nat) (l : List Int), l.length = n → (∀ i, i < n → (i : Int) ∈ l) → l.Nodup ∧ ∀ x ∈ l, 0 ≤ x ∧ x < n
  | 0, l, hl, _ => by
    have : l = [] := List.eq_nil_of_length_eq_zero hl
    subst this
    simp
  | n + 1, l, hl, h => by
    have hm := h n (by omega)
    have hp := List.perm_cons_erase hm
    obtain ⟨h1, h2⟩ := ord_of_has n (l.erase n) (by rw [List.length_erase_of_mem hm]; omega) fun i hi => by
      have := h i (by omega)
      exact (List.mem_erase_of_ne (by omega)).2 this
    refine ⟨hp.nodup_iff.2 (List.nodup_cons.2 ⟨fun hx => by have := h2 _ hx; omega, h1⟩), fun x hx => ?_⟩
    rcases List.mem_cons.1 (hp.mem_iff.1 hx) with rfl | hx
    · omega
    · have := h2 x hx; omega

theorem has_of_ord : ∀ (n : Nat) (l : List Int), l.length = n → l.Nodup → (∀ x ∈ l, 0 ≤ x ∧ x < n) → ∀ i, i < n → (i : Int) ∈ l
  | 0, _, _, _, _, i, hi => by omega
  | n + 1, l, hl, hn, h, i, hi => by
    by_cases hm : (n : Int) ∈ l
    · by_cases hin : i = n
      · subst hin; exact hm
      · refine List.mem_of_mem_erase (a := (i : Int)) (b := (n : Int)) (has_of_ord n (l.erase n) (by rw [List.length_erase_of_mem hm]; omega) (hn.erase _) (fun x hx => ?_) i (by omega))
        have hne : x ≠ n := fun e => by rw [e] at hx; exact (hn.not_mem_erase) hx
        have := h x (List.mem_of_mem_erase hx)
        omega
    · have := ord_le n l hn fun x hx => by
        have hne : x ≠ n := fun e => hm (e ▸ hx)
        have := h x hx
        omega
      omega

theorem isOrd_iff {n : Nat} {l : List Int} : isOrd n l = true ↔ l.length = n ∧ l.Nodup ∧ ∀ x ∈ l, 0 ≤ x ∧ x < n := by
  simp only [isOrd, Bool.and_eq_true, decide_eq_true_eq, List.all_eq_true, List.mem_range, List.contains_eq_mem]
  constructor
  · rintro ⟨h1, h2⟩
    exact ⟨h1, ord_of_has n l h1 h2⟩
  · rintro ⟨h1, h2, h3⟩
    exact ⟨h1, has_of_ord n l h1 h2 h3⟩

end Go.Ab
