/- Lists of fractions joined; compared. No condition. -/
import Derived.Test.YtbcfknboheghkaaF1
import Derived.Test.YtbcfknboheghkaaZabG5
namespace Go.Proofs.Ytbcfknboheghkaa
open Go.Ab

/- slices.Grow[[]loop.example/g01343/impl.Frac,loop.example/g01343/impl.Frac] -/
def f62.j1 (Q : Post) (s_0' : Value) (H : Heap) : Prop :=
  Q s_0' H
def f62.w (Q : Post) (s_0 : Value) (n_1 : Value) (H : Heap) : Prop :=
  W.bin .lss n_1 (.int .i64 0) H fun v1 H =>
  W.cond v1 H
  (fun H => W.no H)
  (fun H => W.cap s_0 H fun v2 H =>
   W.len s_0 H fun v3 H =>
   W.bin .sub v2 v3 H fun v4 H =>
   W.bin .sub n_1 v4 H fun v5 H =>
   W.bin .gtr v5 (.int .i64 0) H fun v6 H =>
   W.cond v6 H
   (fun H => W.cap s_0 H fun v7 H =>
    W.slice 2 s_0 none (some v7) H fun v8 H =>
    W.appendZ [(.int .i64 0), (.int .i64 0)] 66 v8 v5 H fun v9 H =>
    W.len s_0 H fun v10 H =>
    W.slice 2 v9 none (some v10) H fun v11 H =>
    f62.j1 Q v11 H)
   (fun H => f62.j1 Q s_0 H))
theorem f62.enter {Q : Post} {s_0 : Value} {n_1 : Value} {H : Heap} (h : f62.w Q s_0 n_1 H) : Runs Try.prog 62 #[s_0, n_1] H Q :=
  fn_enter (ann := []) (by kernel_rfl) Try.func62 rfl (by kernel_rfl) h (by kernel_rfl)

/- slices.Concat[[]loop.example/g01343/impl.Frac,loop.example/g01343/impl.Frac] -/
def f49.l2 (Q : Post) (v10 : Value) (slices_0 : Value) (I2 : St [6, 27] → Heap → Prop) (newslice_6 : Value) (x_27 : Value) (H : Heap) : Prop :=
  W.bin .lss x_27 v10 H fun v11 H =>
  W.cond v11 H
  (fun H => W.indexAddr 1 slices_0 x_27 H fun v12 H =>
   W.get v12 H fun v13 H =>
   W.append 2 66 newslice_6 v13 H fun v14 H =>
   W.bin .add x_27 (.int .i64 1) H fun v15 H =>
   I2 (v14, v15, ()) H)
  (fun H => Q newslice_6 H)
def f49.l1 (Q : Post) (v1 : Value) (slices_0 : Value) (I1 : St [3, 11] → Heap → Prop) (size_3 : Value) (x_11 : Value) (H : Heap) : Prop :=
  W.bin .lss x_11 v1 H fun v2 H =>
  W.cond v2 H
  (fun H => W.indexAddr 1 slices_0 x_11 H fun v3 H =>
   W.get v3 H fun v4 H =>
   W.len v4 H fun v5 H =>
   W.bin .add size_3 v5 H fun v6 H =>
   W.bin .lss v6 (.int .i64 0) H fun v7 H =>
   W.cond v7 H
   (fun H => W.no H)
   (fun H => W.bin .add x_11 (.int .i64 1) H fun v8 H =>
    I1 (v6, v8, ()) H))
  (fun H => W.call Try.prog (.func (.func 62) #[] #[]) #[(.slice none 0 0), size_3] H fun v9 H =>
   W.len slices_0 H fun v10 H =>
   W.loop (S := St [6, 27]) (fun I2 s H => f49.l2 Q v10 slices_0 I2 s.1 s.2.1 H) (v9, (.int .i64 0), ()) H)
def f49.w (Q : Post) (slices_0 : Value) (H : Heap) : Prop :=
  W.len slices_0 H fun v1 H =>
  W.loop (S := St [3, 11]) (fun I1 s H => f49.l1 Q v1 slices_0 I1 s.1 s.2.1 H) ((.int .i64 0), (.int .i64 0), ()) H
theorem f49.enter {Q : Post} {slices_0 : Value} {H : Heap} (h : f49.w Q slices_0 H) : Runs Try.prog 49 #[slices_0] H Q :=
  fn_enter (ann := [(3, [3, 11]), (11, [6, 27])]) (by kernel_rfl) Try.func49 rfl (by kernel_rfl) h (by kernel_rfl)


theorem growF62 : GrowF Try.prog 62 [.int .i64 0, .int .i64 0] 2 66 := fun _ _ _ _ h => f62.enter h
theorem concat49 : ConcatF Try.prog 49 RFrac 66 := fun _ _ _ _ h hl hQ =>
  f49.enter (concat_ok (r := RFrac) (n1 := 3) (n2 := 11) (n3 := 6) (n4 := 27) growF62 rfl rfl h hl hQ)


end Go.Proofs.Ytbcfknboheghkaa
