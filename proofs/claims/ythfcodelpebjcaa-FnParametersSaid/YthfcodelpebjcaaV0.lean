/- What a problem's numbers are. No condition. -/
import Derived.Test.YthfcodelpebjcaaE1
import Derived.Test.YthfcodelpebjcaaZabG9
import Derived.Test.YthfcodelpebjcaaZabG8
namespace Go.Proofs.Ythfcodelpebjcaa
open Go.Ab

/-- What a problem's numbers are, n of them. -/
structure PB (n : Nat) (p : Prob) : Prop where
  sq : Sq n p.1
  ql : p.2.length = n
  n0 : 0 < n
  n5 : n ≤ 5
  m : ∀ r c, (mAt p.1 r c).natAbs ≤ 20
  q : ∀ e ∈ p.2, e.natAbs ≤ 100

theorem PB.of {p : Prob} (h : isProb p = true) : PB p.2.length p := by
  obtain ⟨_, h1, h2, h3, h4, h5⟩ := isProb_rows h
  refine ⟨⟨h3.symm, fun r hr => by rw [h3]; exact (h4 r hr).1⟩, rfl, by omega, by omega, fun r c => ?_, fun e he => by have := h5 e he; omega⟩
  simp only [mAt, List.getD_eq_getElem?_getD]
  cases e1 : p.1[r]? with
  | none => simp
  | some row =>
    simp only [Option.getD_some]
    cases e2 : row[c]? with
    | none => simp
    | some x =>
      have := (h4 row (List.mem_of_getElem? e1)).2 x (List.mem_of_getElem? e2)
      simp only [Option.getD_some]
      omega

end Go.Proofs.Ythfcodelpebjcaa
