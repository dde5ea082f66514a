/- The text of the function that tells how many sets a problem has. No condition. -/
import Derived.Test.YtbcfknboheghkaaGreatGVV
namespace Go.Proofs.YtbcfknboheghkaaGreat
open Go.Ab

/- (loop.example/g01343/impl.Problem).all -/
def f80.w (Q : Post) (p_0 : Value) (H : Heap) : Prop :=
  W.box p_0 43 H fun v1 H =>
  W.fieldAddr 1 v1 H fun v2 H =>
  W.get v2 H fun v3 H =>
  W.len v3 H fun v4 H =>
  W.bin .shl (.int .i64 1) v4 H fun v5 H =>
  Q v5 H
theorem f80.enter {Q : Post} {p_0 : Value} {H : Heap} (h : f80.w Q p_0 H) : Runs Tryz.prog 80 #[p_0] H Q :=
  fn_enter (ann := []) (by kernel_rfl) Tryz.func80 rfl (by kernel_rfl) h (by kernel_rfl)


end Go.Proofs.YtbcfknboheghkaaGreat
