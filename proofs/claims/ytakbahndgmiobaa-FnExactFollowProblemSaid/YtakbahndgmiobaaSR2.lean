/- Contracts of the reference's runs by rules. No condition. -/
import Derived.Test.YtakbahndgmiobaaV2
import Derived.Test.YtakbahndgmiobaaV3
import Derived.Test.YtakbahndgmiobaaSR1
import Derived.Test.YtakbahndgmiobaaZabG9
namespace Go.Proofs.Ytakbahndgmiobaa
open Go.Ab

/- loop.example/g01343/spec.l01Less -/
def f32.w (Q : Post) (a_0 : Value) (b_1 : Value) (H : Heap) : Prop :=
  W.box a_0 34 H fun v1 H =>
  W.box b_1 34 H fun v2 H =>
  W.fieldAddr 0 v1 H fun v3 H =>
  W.get v3 H fun v4 H =>
  W.fieldAddr 1 v2 H fun v5 H =>
  W.get v5 H fun v6 H =>
  W.bin .mul v4 v6 H fun v7 H =>
  W.fieldAddr 0 v2 H fun v8 H =>
  W.get v8 H fun v9 H =>
  W.fieldAddr 1 v1 H fun v10 H =>
  W.get v10 H fun v11 H =>
  W.bin .mul v9 v11 H fun v12 H =>
  W.bin .lss v7 v12 H fun v13 H =>
  Q v13 H
theorem f32.enter {Q : Post} {a_0 : Value} {b_1 : Value} {H : Heap} (h : f32.w Q a_0 b_1 H) : Runs Try.prog 32 #[a_0, b_1] H Q :=
  fn_enter (ann := []) (by kernel_rfl) Try.func32 rfl (by kernel_rfl) h (by kernel_rfl)



theorem fn32 {H0 : Heap} {Q : Post} {a b : Frac} (h1 : I64 (a.1 * b.2)) (h2 : I64 (b.1 * a.2)) (hQ : ∀ H', H0.Le H' → Q (.bool (decide (a.1 * b.2 < b.1 * a.2))) H') : Runs Try.prog 32 #[.agg (frC a).toArray, .agg (frC b).toArray] H0 Q := by
  refine f32.enter ?_
  unfold f32.w
  refine Wl.box (Loc.start H0) fun H b1 h => Wl.box h fun H b2 h => Wi.fieldAddr0 (Wl.get h rfl (Wi.fieldAddr (Wl.get h rfl (Wi.mul h1 (Wi.fieldAddr0 (Wl.get h rfl (Wi.fieldAddr (Wl.get h rfl (Wi.mul h2 (Wi.lss ?_))))))))))
  exact hQ _ h.le


theorem pointF_at {n : Nat} {rows : List (List Int)} {q : List Int} {i : Nat} (h : i < (pointF n rows q).length) : (pointF n rows q)[i] = frac ((solveL n rows q)[i]'(by simpa [pointF] using h)) (det n (mAt rows)) := by simp [pointF]



end Go.Proofs.Ytakbahndgmiobaa
