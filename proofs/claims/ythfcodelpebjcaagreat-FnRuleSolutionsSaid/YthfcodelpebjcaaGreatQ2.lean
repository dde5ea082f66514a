/- The contract of the program's IsPlace. No condition. -/
import Derived.Test.YthfcodelpebjcaaGreatQ1
import Derived.Test.YthfcodelpebjcaaGreatM1
import Derived.Test.YthfcodelpebjcaaGreatQ4
namespace Go.Proofs.YthfcodelpebjcaaGreat
open Go.Ab



theorem tog_facts {m n : Int} {xs : List Frac} (hf : Frs xs) (hm : 1 ≤ m) {l : List Int} {d : Int} (h : tog m n xs = some (l, d)) : l.length = xs.length ∧ 1 ≤ d ∧ d ≤ m ∧ ∀ a ∈ l, -n ≤ a ∧ a ≤ n := by
  unfold tog at h
  split at h
  · rename_i g
    simp only [Option.some.injEq, Prod.mk.injEq] at h
    obtain ⟨rfl, rfl⟩ := h
    refine ⟨by simp, comTo_pos hf (Nat.le_refl _), ?_, fun a ha => ?_⟩
    · cases hx : xs.length with
      | zero => simp [comTo]; omega
      | succ k =>
        have := g.1 k (by omega)
        exact this
    · obtain ⟨b, hb, rfl⟩ := List.mem_map.1 ha
      exact g.2 b hb
  · cases h

/-- The numbers make a place. -/
def plOK (p : Prg) (l : List Int) (d : Int) : Prop := (∀ j, j < p.2.2.1.length → p.2.2.2.getD j 0 * d ≤ dot (p.2.2.1.getD j []) l) ∧ ∀ a ∈ l, 0 ≤ a

noncomputable def plRes (p : Prg) (xs : List Frac) : Bool × Int := open Classical in
  if IsPrg p ∧ Frs xs then (if xs.length = p.2.1.length then (match tog 1000000000 1000000000000 xs with | none => (false, 3) | some (l, d) => (decide (plOK p l d), 0)) else (false, 2)) else (false, 1)

theorem abs12 {n : Int} {k : Nat} {l : List Int} (h : ∀ a ∈ l, -n ≤ a ∧ a ≤ n) (hk : n = k) : ∀ a ∈ l, a.natAbs ≤ k := fun a ha => by have := h a ha; omega



end Go.Proofs.YthfcodelpebjcaaGreat
