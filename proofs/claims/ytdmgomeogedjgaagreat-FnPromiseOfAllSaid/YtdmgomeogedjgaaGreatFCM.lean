/- The contract of the comparison of two fractions. No condition. -/
import Derived.Test.YtdmgomeogedjgaaGreatGVV
import Derived.Test.YtdmgomeogedjgaaGreatGAB
import Derived.Test.YtdmgomeogedjgaaGreatZabG8
namespace Go.Proofs.YtdmgomeogedjgaaGreat
open Go.Ab

/- (loop.example/g01343/impl.Frac).compare -/
def f55.w (Q : Post) (a_0 : Value) (b_1 : Value) (H : Heap) : Prop :=
  W.box a_0 67 H fun v1 H =>
  W.box b_1 67 H fun v2 H =>
  W.fieldAddr 0 v1 H fun v3 H =>
  W.get v3 H fun v4 H =>
  W.fieldAddr 1 v2 H fun v5 H =>
  W.get v5 H fun v6 H =>
  W.bin .mul v4 v6 H fun v7 H =>
  W.fieldAddr 0 v2 H fun v8 H =>
  W.get v8 H fun v9 H =>
  W.fieldAddr 1 v1 H fun v10 H =>
  W.get v10 H fun v11 H =>
  W.bin .mul v9 v11 H fun v12 H =>
  W.bin .sub v7 v12 H fun v13 H =>
  W.call Tryz.prog (.func (.func 108) #[] #[]) #[v13] H fun v14 H =>
  Q v14 H
theorem f55.enter {Q : Post} {a_0 : Value} {b_1 : Value} {H : Heap} (h : f55.w Q a_0 b_1 H) : Runs Tryz.prog 55 #[a_0, b_1] H Q :=
  fn_enter (ann := []) (by kernel_rfl) Tryz.func55 rfl (by kernel_rfl) h (by kernel_rfl)


theorem fn55 {H0 : Heap} {Q : Post} {a b : Frac} {A B : Nat} (h1 : (a.1 * b.2).natAbs ≤ A) (h2 : (b.1 * a.2).natAbs ≤ B) (h3 : A + B < 9223372036854775808) (hQ : ∀ H', H0.Le H' → Q (.int .i64 (sgI (a.1 * b.2 - b.1 * a.2))) H') : Runs Tryz.prog 55 #[.agg (frC a).toArray, .agg (frC b).toArray] H0 Q := by
  refine f55.enter ?_
  unfold f55.w
  refine Wl.box (Loc.start H0) fun H b1 h => Wl.box h fun H b2 h => Wi.fieldAddr0 (Wl.get h rfl (Wi.fieldAddr (Wl.get h rfl (Wi.mul (i64A h1 (by omega)) (Wi.fieldAddr0 (Wl.get h rfl (Wi.fieldAddr (Wl.get h rfl (Wi.mul (i64A h2 (by omega)) (Wi.sub (i64A (subA h1 h2) (by omega)) (Wi.call (fn108 ?_))))))))))))
  exact hQ _ h.le

end Go.Proofs.YtdmgomeogedjgaaGreat
