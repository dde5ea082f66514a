/- What DualProgram comes to. No condition. -/
import Derived.Test.YtccppfpjiaafaaaG2
import Derived.Test.YtccppfpjiaafaaaN3
namespace Go.Proofs.Ytccppfpjiaafaaa
open Go.Ab

def zeroD (m : List (List Int)) : Prop := ∀ r ∈ m, ∀ x ∈ r, x = 0

def turnM (m : List (List Int)) (n : Nat) : List (List Int) := (List.range n).map fun j => m.map fun r => r.getD j 0

def dualPrg (p : Prg) : Prg := (List.replicate p.2.2.2.length (List.replicate p.2.2.2.length 0), neg p.2.2.2, (turnM p.2.2.1 p.2.1.length).map neg, neg p.2.1)

noncomputable def dpRes (p : Prg) : Prg × Int := open Classical in if IsPrg p then (if zeroD p.1 ∧ 0 < p.2.2.2.length then (dualPrg p, 0) else (zPrg, 5)) else (zPrg, 1)

theorem dpRes_sz (p : Prg) : szSS (dpRes p).1.1 + szS (dpRes p).1.2.1 + szSS (dpRes p).1.2.2.1 + szS (dpRes p).1.2.2.2 ≤ 1048576 := by
  unfold dpRes
  split
  · rename_i h
    split
    · have := h.n1; have := h.nm; have := h.al
      have h1 : szSS (dualPrg p).1 ≤ (dualPrg p).1.length * 5 := szl_le _ fun r hr => by
        have := List.eq_of_mem_replicate hr
        rw [szS_len, this, List.length_replicate]
        omega
      have h2 : szSS (dualPrg p).2.2.1 ≤ (dualPrg p).2.2.1.length * 5 := szl_le _ fun r hr => by
        simp only [dualPrg, turnM, List.map_map, List.mem_map, Function.comp] at hr
        obtain ⟨j, _, rfl⟩ := hr
        rw [szS_len, neg_length, List.length_map]
        omega
      have e1 : (dualPrg p).1.length = p.2.2.2.length := by simp [dualPrg]
      have e2 : (dualPrg p).2.2.1.length = p.2.1.length := by simp [dualPrg, turnM]
      have e3 : (dualPrg p).2.1.length = p.2.2.2.length := neg_length _
      have e4 : (dualPrg p).2.2.2.length = p.2.1.length := neg_length _
      show szSS (dualPrg p).1 + szS (dualPrg p).2.1 + szSS (dualPrg p).2.2.1 + szS (dualPrg p).2.2.2 ≤ 1048576
      rw [szS_len, szS_len]
      omega
    · decide
  · decide

end Go.Proofs.Ytccppfpjiaafaaa
