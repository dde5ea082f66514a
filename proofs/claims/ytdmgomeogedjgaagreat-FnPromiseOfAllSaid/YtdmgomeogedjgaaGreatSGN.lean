/- The contract of sign. No condition. -/
import Derived.Test.YtdmgomeogedjgaaGreatGAB
import Derived.Test.YtdmgomeogedjgaaGreatZabG9
import Derived.Test.YtdmgomeogedjgaaGreatZabG4
namespace Go.Proofs.YtdmgomeogedjgaaGreat
open Go.Ab

/- loop.example/g01343/impl.sign -/
def f108.w (Q : Post) (n_0 : Value) (H : Heap) : Prop :=
  W.bin .lss n_0 (.int .i64 0) H fun v1 H =>
  W.cond v1 H
  (fun H => Q (.int .i64 (-1)) H)
  (fun H => W.bin .gtr n_0 (.int .i64 0) H fun v2 H =>
   W.cond v2 H
   (fun H => Q (.int .i64 1) H)
   (fun H => Q (.int .i64 0) H))
theorem f108.enter {Q : Post} {n_0 : Value} {H : Heap} (h : f108.w Q n_0 H) : Runs Tryz.prog 108 #[n_0] H Q :=
  fn_enter (ann := []) (by kernel_rfl) Tryz.func108 rfl (by kernel_rfl) h (by kernel_rfl)


theorem fn108 {H0 : Heap} {Q : Post} {x : Int} (hQ : Q (.int .i64 (sgI x)) H0) : Runs Tryz.prog 108 #[.int .i64 x] H0 Q := by
  unfold sgI at hQ
  refine f108.enter (Wi.lssC (fun h => Wi.tru ?_) fun h => Wi.fls (Wi.gtrC (fun h2 => Wi.tru ?_) fun h2 => Wi.fls ?_))
  · rw [if_pos h] at hQ; exact hQ
  · rw [if_neg h, if_pos h2] at hQ; exact hQ
  · rw [if_neg h, if_neg h2] at hQ; exact hQ

end Go.Proofs.YtdmgomeogedjgaaGreat
