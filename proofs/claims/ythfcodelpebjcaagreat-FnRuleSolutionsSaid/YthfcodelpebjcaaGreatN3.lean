/- The problem of a program, as a plain value. No condition. -/
import Derived.Test.YthfcodelpebjcaaGreatP1
import Derived.Test.YthfcodelpebjcaaGreatGAB
import Derived.Test.YthfcodelpebjcaaGreatGDD
import Derived.Test.YthfcodelpebjcaaGreatZabG5
namespace Go.Proofs.YthfcodelpebjcaaGreat
open Go.Ab

def neg (xs : List Int) : List Int := xs.map (fun x => -x)
theorem neg_idx (xs : List Int) : xs.mapIdx (fun _ x => -x) = neg xs := by
  unfold neg
  apply List.ext_getElem <;> simp
theorem neg_length (xs : List Int) : (neg xs).length = xs.length := by simp [neg]

/-- The first rows of a program's problem. -/
def prgTop (p : Prg) (i : Nat) : List (List Int) := (List.range i).map fun i => p.1.getD i [] ++ (List.range p.2.2.2.length).map fun j => -((p.2.2.1.getD j []).getD i 0)
def prgLow (p : Prg) (j : Nat) : List (List Int) := (p.2.2.1.take j).map fun r => r ++ List.replicate p.2.2.2.length 0
def prgProblem (p : Prg) : Prob := (prgTop p p.2.1.length ++ prgLow p p.2.2.1.length, p.2.1 ++ neg p.2.2.2)

theorem prgTop_len (p : Prg) (i : Nat) : (prgTop p i).length = i := by unfold prgTop; rw [List.length_map, List.length_range]
theorem prgTop_succ (p : Prg) (i : Nat) : prgTop p (i + 1) = prgTop p i ++ [p.1.getD i [] ++ (List.range p.2.2.2.length).map fun j => -((p.2.2.1.getD j []).getD i 0)] := by
  unfold prgTop
  rw [List.range_succ, List.map_append]
  rfl
theorem prgLow_len (p : Prg) (j : Nat) : (prgLow p j).length ≤ p.2.2.1.length := by unfold prgLow; rw [List.length_map, List.length_take]; omega
theorem prgLow_succ (p : Prg) {j : Nat} (h : j < p.2.2.1.length) : prgLow p (j + 1) = prgLow p j ++ [p.2.2.1[j] ++ List.replicate p.2.2.2.length 0] := by
  unfold prgLow
  rw [List.take_succ_eq_append_getElem h, List.map_append]
  rfl

noncomputable def ppRes (p : Prg) : Prob × Int := open Classical in if IsPrg p then (prgProblem p, 0) else (([], []), 1)

theorem szS_app (xs ys : List Int) : szS (xs ++ ys) = szS xs + szS ys := by rw [szS_len, szS_len, szS_len, List.length_append]

theorem prgProblem_dims {p : Prg} (h : IsPrg p) : (prgProblem p).1.length = p.2.1.length + p.2.2.2.length ∧ (prgProblem p).2.length = p.2.1.length + p.2.2.2.length ∧ ∀ r ∈ (prgProblem p).1, r.length = p.2.1.length + p.2.2.2.length := by
  have h1 := h.al
  have h2 := h.dl
  refine ⟨by simp [prgProblem, prgTop, prgLow, h1], by simp [prgProblem, neg], fun r hr => ?_⟩
  simp only [prgProblem, List.mem_append] at hr
  rcases hr with hr | hr
  · simp only [prgTop, List.mem_map, List.mem_range] at hr
    obtain ⟨i, hi, rfl⟩ := hr
    have hi2 : i < p.1.length := by omega
    simp [List.getD_eq_getElem?_getD, List.getElem?_eq_getElem hi2, (h.d _ (List.getElem_mem hi2)).1]
  · simp only [prgLow, List.mem_map] at hr
    obtain ⟨r, hr, rfl⟩ := hr
    simp [(h.a r (List.mem_of_mem_take hr)).1]

theorem ppRes_sz (p : Prg) : szProblem (ppRes p).1 ≤ 1048576 := by
  have h0 : szProblem (([], []) : Prob) ≤ 1048576 := by decide
  unfold ppRes
  split
  · rename_i h
    obtain ⟨h1, h2, h3⟩ := prgProblem_dims h
    have h4 := h.nm
    have : szSS (prgProblem p).1 ≤ (prgProblem p).1.length * 5 := szl_le _ fun r hr => by rw [szS_len, h3 r hr]; omega
    simp only [szp, szS_len]
    omega
  · exact h0

end Go.Proofs.YthfcodelpebjcaaGreat
