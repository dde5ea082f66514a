/- Contracts of slices.Grow and slices.Concat, rows. No condition. -/
import Derived.Test.YtioleipoomgmhaaA1
import Derived.Test.YtioleipoomgmhaaZabG5
namespace Go.Proofs.Ytioleipoomgmhaa
open Go.Ab

/- slices.Grow[[][]int64,[]int64] -/
def f89.j1 (Q : Post) (s_0' : Value) (H : Heap) : Prop :=
  Q s_0' H
def f89.w (Q : Post) (s_0 : Value) (n_1 : Value) (H : Heap) : Prop :=
  W.bin .lss n_1 (.int .i64 0) H fun v1 H =>
  W.cond v1 H
  (fun H => W.no H)
  (fun H => W.cap s_0 H fun v2 H =>
   W.len s_0 H fun v3 H =>
   W.bin .sub v2 v3 H fun v4 H =>
   W.bin .sub n_1 v4 H fun v5 H =>
   W.bin .gtr v5 (.int .i64 0) H fun v6 H =>
   W.cond v6 H
   (fun H => W.cap s_0 H fun v7 H =>
    W.slice 1 s_0 none (some v7) H fun v8 H =>
    W.appendZ [(.slice none 0 0)] 26 v8 v5 H fun v9 H =>
    W.len s_0 H fun v10 H =>
    W.slice 1 v9 none (some v10) H fun v11 H =>
    f89.j1 Q v11 H)
   (fun H => f89.j1 Q s_0 H))
theorem f89.enter {Q : Post} {s_0 : Value} {n_1 : Value} {H : Heap} (h : f89.w Q s_0 n_1 H) : Runs Try.prog 89 #[s_0, n_1] H Q :=
  fn_enter (ann := []) (by kernel_rfl) Try.func89 rfl (by kernel_rfl) h (by kernel_rfl)

/- slices.Concat[[][]int64,[]int64] -/
def f53.l2 (Q : Post) (v10 : Value) (slices_0 : Value) (I2 : St [6, 27] → Heap → Prop) (newslice_6 : Value) (x_27 : Value) (H : Heap) : Prop :=
  W.bin .lss x_27 v10 H fun v11 H =>
  W.cond v11 H
  (fun H => W.indexAddr 1 slices_0 x_27 H fun v12 H =>
   W.get v12 H fun v13 H =>
   W.append 1 26 newslice_6 v13 H fun v14 H =>
   W.bin .add x_27 (.int .i64 1) H fun v15 H =>
   I2 (v14, v15, ()) H)
  (fun H => Q newslice_6 H)
def f53.l1 (Q : Post) (v1 : Value) (slices_0 : Value) (I1 : St [3, 11] → Heap → Prop) (size_3 : Value) (x_11 : Value) (H : Heap) : Prop :=
  W.bin .lss x_11 v1 H fun v2 H =>
  W.cond v2 H
  (fun H => W.indexAddr 1 slices_0 x_11 H fun v3 H =>
   W.get v3 H fun v4 H =>
   W.len v4 H fun v5 H =>
   W.bin .add size_3 v5 H fun v6 H =>
   W.bin .lss v6 (.int .i64 0) H fun v7 H =>
   W.cond v7 H
   (fun H => W.no H)
   (fun H => W.bin .add x_11 (.int .i64 1) H fun v8 H =>
    I1 (v6, v8, ()) H))
  (fun H => W.call Try.prog (.func (.func 89) #[] #[]) #[(.slice none 0 0), size_3] H fun v9 H =>
   W.len slices_0 H fun v10 H =>
   W.loop (S := St [6, 27]) (fun I2 s H => f53.l2 Q v10 slices_0 I2 s.1 s.2.1 H) (v9, (.int .i64 0), ()) H)
def f53.w (Q : Post) (slices_0 : Value) (H : Heap) : Prop :=
  W.len slices_0 H fun v1 H =>
  W.loop (S := St [3, 11]) (fun I1 s H => f53.l1 Q v1 slices_0 I1 s.1 s.2.1 H) ((.int .i64 0), (.int .i64 0), ()) H
theorem f53.enter {Q : Post} {slices_0 : Value} {H : Heap} (h : f53.w Q slices_0 H) : Runs Try.prog 53 #[slices_0] H Q :=
  fn_enter (ann := [(3, [3, 11]), (11, [6, 27])]) (by kernel_rfl) Try.func53 rfl (by kernel_rfl) h (by kernel_rfl)


theorem grow89 : GrowF Try.prog 89 [.slice none 0 0] 1 26 := fun _ _ _ _ h => f89.enter h
theorem concat53 : ConcatF Try.prog 53 RS 26 := fun _ _ _ _ h hl hQ =>
  f53.enter (concat_ok (r := RS) (n1 := 3) (n2 := 11) (n3 := 6) (n4 := 27) grow89 rfl rfl h hl hQ)

end Go.Proofs.Ytioleipoomgmhaa
