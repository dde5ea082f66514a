/- The contract of the reference's l01In. No condition. -/
import Derived.Test.YthfcodelpebjcaaA1
import Derived.Test.YthfcodelpebjcaaZabG5
namespace Go.Proofs.Ythfcodelpebjcaa
open Go.Ab

/- loop.example/g01343/spec.l01In -/
def f59.w (Q : Post) (n_0 : Value) (low_1 : Value) (high_2 : Value) (H : Heap) : Prop :=
  W.bin .geq n_0 low_1 H fun v1 H =>
  W.guarded v1 true (fun H k => k n_0 H) H fun v2 H =>
  W.guarded v1 true (fun H k => k high_2 H) H fun v3 H =>
  W.guarded v1 true (fun H k => W.bin .leq v2 v3 H k) H fun v4 H =>
  W.pick v1 v4 (.bool false) H fun v5 H =>
  Q v5 H
theorem f59.enter {Q : Post} {n_0 : Value} {low_1 : Value} {high_2 : Value} {H : Heap} (h : f59.w Q n_0 low_1 high_2 H) : Runs Try.prog 59 #[n_0, low_1, high_2] H Q :=
  fn_enter (ann := []) (by kernel_rfl) Try.func59 rfl (by kernel_rfl) h (by kernel_rfl)


theorem fn59 {H : Heap} {Q : Post} {n lo hi : Int} (h : Q (.bool (inR lo hi n)) H) : Runs Try.prog 59 #[.int .i64 n, .int .i64 lo, .int .i64 hi] H Q := by
  refine f59.enter ?_
  unfold f59.w
  refine Wi.geq ?_
  unfold inR at h
  cases hb : decide (lo ≤ n) with
  | true =>
    rw [hb] at h
    exact Wi.gT (Wi.gT (Wi.gT (Wi.leq (Wi.pickT h))))
  | false =>
    rw [hb] at h
    exact Wi.gF (Wi.gF (Wi.gF (Wi.pickF h)))

end Go.Proofs.Ythfcodelpebjcaa
