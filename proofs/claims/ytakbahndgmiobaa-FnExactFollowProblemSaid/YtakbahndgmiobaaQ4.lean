/- The contract of isFeasible. No condition. -/
import Derived.Test.YtakbahndgmiobaaB1
import Derived.Test.YtakbahndgmiobaaZabG5
namespace Go.Proofs.Ytakbahndgmiobaa
open Go.Ab

/- loop.example/g01343/impl.isFeasible -/
def f73.w (Q : Post) (point_0 : Value) (H : Heap) : Prop :=
  W.call Try.prog (.func (.func 67) #[] #[]) #[point_0, (.func (.func 109) #[] #[])] H fun v1 H =>
  W.un .not v1 H fun v2 H =>
  Q v2 H
theorem f73.enter {Q : Post} {point_0 : Value} {H : Heap} (h : f73.w Q point_0 H) : Runs Try.prog 73 #[point_0] H Q :=
  fn_enter (ann := []) (by kernel_rfl) Try.func73 rfl (by kernel_rfl) h (by kernel_rfl)

/- loop.example/g01343/impl.isFeasible$1 -/
def f109.w (Q : Post) (n_0 : Value) (H : Heap) : Prop :=
  W.bin .lss n_0 (.int .i64 0) H fun v1 H =>
  Q v1 H
theorem f109.enter {Q : Post} {n_0 : Value} {H : Heap} (h : f109.w Q n_0 H) : Runs Try.prog 109 #[n_0] H Q :=
  fn_enter (ann := []) (by kernel_rfl) Try.func109 rfl (by kernel_rfl) h (by kernel_rfl)


theorem fn73 {H0 : Heap} {Q : Post} {v : Value} {l : List Int} (hr : Has RS H0 [v] l) (hQ : ∀ H' t, H0.Le H' → (t = true ↔ ∀ a ∈ l, 0 ≤ a) → Q (.bool t) H') : Runs Try.prog 73 #[v] H0 Q := by
  obtain ⟨bs, hr⟩ := hr
  refine f73.enter (Wi.call (contains67 _ _ _ _ _ (fun x => decide (x < 0)) _ hr ?_ fun H2 l2 => Wi.not (hQ _ _ l2 ?_)))
  · intro H' bs u x K l hr hK
    obtain ⟨_, hu, _⟩ := hr
    simp only [List.cons.injEq, and_true] at hu
    subst hu
    exact Wi.callV (f109.enter (Wi.lss (hK _ (.refl _))))
  · simp only [Bool.not_eq_true', List.any_eq_false, decide_eq_true_eq, Int.not_lt]

end Go.Proofs.Ytakbahndgmiobaa
