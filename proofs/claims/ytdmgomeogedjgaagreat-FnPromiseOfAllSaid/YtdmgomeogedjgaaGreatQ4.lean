/- The contract of isFeasible. No condition. -/
import Derived.Test.YtdmgomeogedjgaaGreatGAB
import Derived.Test.YtdmgomeogedjgaaGreatZabG5
namespace Go.Proofs.YtdmgomeogedjgaaGreat
open Go.Ab

/- loop.example/g01343/impl.isFeasible -/
def f47.w (Q : Post) (point_0 : Value) (H : Heap) : Prop :=
  W.call Tryz.prog (.func (.func 91) #[] #[]) #[point_0, (.func (.func 92) #[] #[])] H fun v1 H =>
  W.un .not v1 H fun v2 H =>
  Q v2 H
theorem f47.enter {Q : Post} {point_0 : Value} {H : Heap} (h : f47.w Q point_0 H) : Runs Tryz.prog 47 #[point_0] H Q :=
  fn_enter (ann := []) (by kernel_rfl) Tryz.func47 rfl (by kernel_rfl) h (by kernel_rfl)

/- loop.example/g01343/impl.isFeasible$1 -/
def f92.w (Q : Post) (n_0 : Value) (H : Heap) : Prop :=
  W.bin .lss n_0 (.int .i64 0) H fun v1 H =>
  Q v1 H
theorem f92.enter {Q : Post} {n_0 : Value} {H : Heap} (h : f92.w Q n_0 H) : Runs Tryz.prog 92 #[n_0] H Q :=
  fn_enter (ann := []) (by kernel_rfl) Tryz.func92 rfl (by kernel_rfl) h (by kernel_rfl)


theorem fn47 {H0 : Heap} {Q : Post} {v : Value} {l : List Int} (hr : Has RS H0 [v] l) (hQ : ∀ H' t, H0.Le H' → (t = true ↔ ∀ a ∈ l, 0 ≤ a) → Q (.bool t) H') : Runs Tryz.prog 47 #[v] H0 Q := by
  obtain ⟨bs, hr⟩ := hr
  refine f47.enter (Wi.call (contains91 _ _ _ _ _ (fun x => decide (x < 0)) _ hr ?_ fun H2 l2 => Wi.not (hQ _ _ l2 ?_)))
  · intro H' bs u x K l hr hK
    obtain ⟨_, hu, _⟩ := hr
    simp only [List.cons.injEq, and_true] at hu
    subst hu
    exact Wi.callV (f92.enter (Wi.lss (hK _ (.refl _))))
  · simp only [Bool.not_eq_true', List.any_eq_false, decide_eq_true_eq, Int.not_lt]

end Go.Proofs.YtdmgomeogedjgaaGreat
