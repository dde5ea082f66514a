/- Both mixes by their numerators; sums. No condition. -/
import Derived.Test.YtbcfknboheghkaaU0
import Derived.Test.YtbcfknboheghkaaZabG8
namespace Go.Proofs.Ytbcfknboheghkaa
open Go.Ab

/-- Both mixes, by their numerators. -/
def mixV (k : Nat) (z : List Int) : List Frac × Int :=
  if (frAll (z.take k) (z.take k).sum).2 = 0 ∧ (frAll (z.drop k) (z.drop k).sum).2 = 0 then ((frAll (z.take k) (z.take k).sum).1 ++ (frAll (z.drop k) (z.drop k).sum).1, 0) else ([], 3)

theorem frAll_code (l : List Int) (d : Int) : (frAll l d).2 = 0 ∨ (frAll l d).2 = 3 := by
  unfold frAll
  split
  · exact .inl rfl
  · exact .inr rfl

theorem mixV_len (k : Nat) (z : List Int) : (mixV k z).1.length ≤ z.length := by
  unfold mixV
  split
  · have h1 := frAll_len (z.take k) (z.take k).sum
    have h2 := frAll_len (z.drop k) (z.drop k).sum
    simp only [List.length_append]
    simp only [List.length_take, List.length_drop] at h1 h2
    omega
  · simp

theorem sum_nonneg {l : List Int} (h : ∀ x ∈ l, 0 ≤ x) : 0 ≤ l.sum := by
  induction l with
  | nil => simp
  | cons a l ih =>
    have h1 := h a (by simp)
    have h2 := ih fun x hx => h x (by simp [hx])
    simp only [List.sum_cons]
    omega
theorem sum_pos {l : List Int} (h : ∀ x ∈ l, 0 ≤ x) (hx : ∃ x ∈ l, x ≠ 0) : l.sum ≠ 0 := by
  induction l with
  | nil => obtain ⟨x, hx, _⟩ := hx; cases hx
  | cons a l ih =>
    have h1 := h a (by simp)
    have h2 := sum_nonneg fun x hx => h x (List.mem_cons_of_mem a hx)
    simp only [List.sum_cons]
    obtain ⟨x, hx, hne⟩ := hx
    rcases List.mem_cons.1 hx with e | hx
    · omega
    · have := ih (fun x hx => h x (by simp [hx])) ⟨x, hx, hne⟩
      omega
theorem sum_abs {l : List Int} {B : Nat} (h : ∀ x ∈ l, x.natAbs ≤ B) : l.sum.natAbs ≤ l.length * B := by
  induction l with
  | nil => simp
  | cons a l ih =>
    have h1 := h a (by simp)
    have h2 := ih fun x hx => h x (by simp [hx])
    simp only [List.sum_cons, List.length_cons, Nat.succ_mul]
    omega
theorem sum_step {l : List Int} {i : Nat} (h : i < l.length) : (l.take (i + 1)).sum = (l.take i).sum + l[i] := by
  rw [List.take_succ_eq_append_getElem h, List.sum_append]
  simp

end Go.Proofs.Ytbcfknboheghkaa
