/- The contract of the reference's l01In. No condition. -/
import Derived.Test.YtbcfknboheghkaaA1
import Derived.Test.YtbcfknboheghkaaZabG5
namespace Go.Proofs.Ytbcfknboheghkaa
open Go.Ab

/- loop.example/g01343/spec.l01In -/
def f16.w (Q : Post) (n_0 : Value) (low_1 : Value) (high_2 : Value) (H : Heap) : Prop :=
  W.bin .geq n_0 low_1 H fun v1 H =>
  W.guarded v1 true (fun H k => k n_0 H) H fun v2 H =>
  W.guarded v1 true (fun H k => k high_2 H) H fun v3 H =>
  W.guarded v1 true (fun H k => W.bin .leq v2 v3 H k) H fun v4 H =>
  W.pick v1 v4 (.bool false) H fun v5 H =>
  Q v5 H
theorem f16.enter {Q : Post} {n_0 : Value} {low_1 : Value} {high_2 : Value} {H : Heap} (h : f16.w Q n_0 low_1 high_2 H) : Runs Try.prog 16 #[n_0, low_1, high_2] H Q :=
  fn_enter (ann := []) (by kernel_rfl) Try.func16 rfl (by kernel_rfl) h (by kernel_rfl)


theorem fn16 {H : Heap} {Q : Post} {n lo hi : Int} (h : Q (.bool (inR lo hi n)) H) : Runs Try.prog 16 #[.int .i64 n, .int .i64 lo, .int .i64 hi] H Q := by
  refine f16.enter ?_
  unfold f16.w
  refine Wi.geq ?_
  unfold inR at h
  cases hb : decide (lo ≤ n) with
  | true =>
    rw [hb] at h
    exact Wi.gT (Wi.gT (Wi.gT (Wi.leq (Wi.pickT h))))
  | false =>
    rw [hb] at h
    exact Wi.gF (Wi.gF (Wi.gF (Wi.pickF h)))

end Go.Proofs.Ytbcfknboheghkaa
