/- The laws' helpers for numbers, lists and rows: comparing, marking, weighing, copying. No condition. -/
import Derived.Test.YtgdiebnokgnniaaGreatDoorProg
import Derived.Test.YtgdiebnokgnniaaGreatDoorZabG3
import Derived.Test.YtgdiebnokgnniaaGreatDoorZabG4
namespace Go.Proofs.YtgdiebnokgnniaaGreatDoor
open Go.Ab



abbrev RS : Rd (List Int) := Rd.slice Rd.int
abbrev RSS : Rd (List (List Int)) := Rd.slice RS

abbrev mkS := mkl (fun (_ : Int) k => k) (fun _ => 1)
abbrev szS := szl (fun (_ : Int) => 1)
abbrev mkSS := mkl mkS szS
abbrev szSS := szl szS

abbrev wSS : List (List Int) → Nat := wl List.length

theorem szl_le {α : Type} {w : α → Nat} {c : Nat} (xs : List α) (h : ∀ x ∈ xs, w x ≤ c) : szl w xs ≤ xs.length * c := by
  induction xs with
  | nil => simp [szl]
  | cons x xs ih =>
    simp only [szl, List.length_cons, Nat.succ_mul]
    have := h x (by simp)
    have := ih fun y hy => h y (List.mem_cons_of_mem _ hy)
    omega

end Go.Proofs.YtgdiebnokgnniaaGreatDoor
