/- Contracts of the program's runs by rules. No condition. -/
import Derived.Test.YtakbahndgmiobaaV1
import Derived.Test.YtakbahndgmiobaaV3
import Derived.Test.YtakbahndgmiobaaD7
import Derived.Test.YtakbahndgmiobaaZabG9
namespace Go.Proofs.Ytakbahndgmiobaa
open Go.Ab




/-- The code of a problem, the empty set and a rule. -/
def ruC (p : Prob) (rule : Int) : Int := if isProb p = true then (if inR 0 3 rule = true then 0 else 2) else 1

theorem ruC_eq {p : Prob} {rule : Int} (h : ruC p rule = 0) : isProb p = true ∧ 0 ≤ rule ∧ rule ≤ 3 := by
  unfold ruC at h
  by_cases h1 : isProb p = true
  · rw [if_pos h1] at h
    by_cases h2 : inR 0 3 rule = true
    · exact ⟨h1, inR_iff.1 h2⟩
    · rw [if_neg h2] at h; cases h
  · rw [if_neg h1] at h; cases h

theorem setOk_zero {n : Nat} : setOk n 0 = true := inR_iff.2 ⟨Int.le_refl _, by have := Nat.pow_pos (n := n) (show 0 < 2 by decide); omega⟩


/-- A list of sets, as numbers. -/
abbrev setsL (l : List Nat) : List Int := l.map fun (s : Nat) => (s : Int)

theorem setsL_mem {l : List Nat} {s : Nat} : (setsL l).contains (s : Int) = decide (s ∈ l) := by
  rw [Bool.eq_iff_iff]
  simp only [List.contains_eq_mem, decide_eq_true_eq, setsL, List.mem_map]
  constructor
  · rintro ⟨a, ha, e⟩
    have : a = s := by omega
    exact this ▸ ha
  · exact fun h => ⟨s, h, rfl⟩

theorem setsL_push (f : Nat → Nat) (k : Nat) : setsL ((List.range k).map f) ++ [(f k : Int)] = setsL ((List.range (k + 1)).map f) := by
  rw [List.range_succ, List.map_append]
  simp [setsL]


end Go.Proofs.Ytakbahndgmiobaa
