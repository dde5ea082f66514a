/- The laws' helpers for lists of fractions: comparing, weighing, copying. No condition. -/
import Derived.Test.YtdmgomeogedjgaaGreatGAB
namespace Go.Proofs.YtdmgomeogedjgaaGreat
open Go.Ab








def fillTo (x : List Frac) (i : Nat) : List Frac := (List.range x.length).map fun j => if j < i then x.getD j (0, 0) else (0, 0)

theorem fillTo_len (x : List Frac) (i : Nat) : (fillTo x i).length = x.length := by simp [fillTo]

theorem fillTo_succ {x : List Frac} {i : Nat} (hi : i < x.length) : (fillTo x i).set i x[i] = fillTo x (i + 1) := by
  apply List.ext_getElem
  · simp [fillTo]
  · intro j h1 h2
    have hj : j < x.length := by rw [fillTo_len] at h2; exact h2
    rw [List.getElem_set]
    simp only [fillTo, List.getElem_map, List.getElem_range]
    by_cases e : i = j
    · subst e
      rw [if_pos rfl, if_pos (by omega)]
      simp [List.getD_eq_getElem?_getD, List.getElem?_eq_getElem hi]
    · rw [if_neg e]
      by_cases g : j < i
      · rw [if_pos g, if_pos (by omega)]
      · rw [if_neg g, if_neg (by omega)]

theorem fillTo_all (x : List Frac) : fillTo x x.length = x := by
  apply List.ext_getElem
  · simp [fillTo]
  · intro j h1 h2
    simp only [fillTo, List.getElem_map, List.getElem_range]
    rw [if_pos h2]
    simp [List.getD_eq_getElem?_getD, List.getElem?_eq_getElem h2]

theorem fillTo_zero (x : List Frac) : fillTo x 0 = List.replicate x.length (0, 0) := by
  apply List.ext_getElem <;> simp [fillTo]


end Go.Proofs.YtdmgomeogedjgaaGreat
