/- Pure equilibria; constant sums; players exchanged: both contracts of each. No condition. -/
import Derived.Test.YtbcfknboheghkaaGreatGEQ
import Derived.Test.YtbcfknboheghkaaGreatGRC
import Derived.Test.YtbcfknboheghkaaGreatTU
namespace Go.Proofs.YtbcfknboheghkaaGreat
open Go.Ab

/- (loop.example/g01343/impl.Game).isPure -/
def f91.l1 (Q : Post) (v4 : Value) (v3 : Value) (j_2 : Value) (v1 : Value) (i_1 : Value) (I1 : St [12] → Heap → Prop) (x_12 : Value) (H : Heap) : Prop :=
  W.bin .lss x_12 v4 H fun v5 H =>
  W.cond v5 H
  (fun H => W.indexAddr 1 v3 x_12 H fun v6 H =>
   W.get v6 H fun v7 H =>
   W.indexAddr 1 v7 j_2 H fun v8 H =>
   W.get v8 H fun v9 H =>
   W.fieldAddr 0 v1 H fun v10 H =>
   W.get v10 H fun v11 H =>
   W.indexAddr 1 v11 i_1 H fun v12 H =>
   W.get v12 H fun v13 H =>
   W.indexAddr 1 v13 j_2 H fun v14 H =>
   W.get v14 H fun v15 H =>
   W.bin .gtr v9 v15 H fun v16 H =>
   W.cond v16 H
   (fun H => Q (.bool false) H)
   (fun H => W.bin .add x_12 (.int .i64 1) H fun v17 H =>
    I1 (v17, ()) H))
  (fun H => W.fieldAddr 1 v1 H fun v18 H =>
   W.get v18 H fun v19 H =>
   W.indexAddr 1 v19 i_1 H fun v20 H =>
   W.get v20 H fun v21 H =>
   W.callQ Tryz.prog (.func (.func 94) #[] #[]) #[v21] H fun v22 H =>
   W.fieldAddr 1 v1 H fun v23 H =>
   W.get v23 H fun v24 H =>
   W.indexAddr 1 v24 i_1 H fun v25 H =>
   W.get v25 H fun v26 H =>
   W.indexAddr 1 v26 j_2 H fun v27 H =>
   W.get v27 H fun v28 H =>
   W.bin .eql v22 v28 H fun v29 H =>
   Q v29 H)
def f91.w (Q : Post) (g_0 : Value) (i_1 : Value) (j_2 : Value) (H : Heap) : Prop :=
  W.box g_0 26 H fun v1 H =>
  W.fieldAddr 0 v1 H fun v2 H =>
  W.get v2 H fun v3 H =>
  W.len v3 H fun v4 H =>
  W.loop (S := St [12]) (fun I1 s H => f91.l1 Q v4 v3 j_2 v1 i_1 I1 s.1 H) ((.int .i64 0), ()) H
theorem f91.enter {Q : Post} {g_0 : Value} {i_1 : Value} {j_2 : Value} {H : Heap} (h : f91.w Q g_0 i_1 j_2 H) : Runs Tryz.prog 91 #[g_0, i_1, j_2] H Q :=
  fn_enter (ann := [(2, [12])]) (by kernel_rfl) Tryz.func91 rfl (by kernel_rfl) h (by kernel_rfl)

/- loop.example/g01343/impl.PureEquilibria -/
def f24.j1 (Q : Post) (x_22 : Value) (I2 : St [4, 22] → Heap → Prop) (out_4'' : Value) (H : Heap) : Prop :=
  W.bin .add x_22 (.int .i64 1) H fun v20 H =>
  I2 (out_4'', v20, ()) H
def f24.l2 (Q : Post) (v13 : Value) (v1 : Value) (x_13 : Value) (I1 : St [4, 13] → Heap → Prop) (I2 : St [4, 22] → Heap → Prop) (out_4' : Value) (x_22 : Value) (H : Heap) : Prop :=
  W.bin .lss x_22 v13 H fun v14 H =>
  W.cond v14 H
  (fun H => W.getN 2 v1 H fun v15 H =>
   W.call Tryz.prog (.func (.func 91) #[] #[]) #[v15, x_13, x_22] H fun v16 H =>
   W.cond v16 H
   (fun H => W.lit 2 [(.int .i64 0)] 2 [(0, 1, x_13), (1, 1, x_22)] H fun v17 H =>
    W.lit 1 [(.slice none 0 0)] 35 [(0, 1, v17)] H fun v18 H =>
    W.append 1 35 out_4' v18 H fun v19 H =>
    f24.j1 Q x_22 I2 v19 H)
   (fun H => f24.j1 Q x_22 I2 out_4' H))
  (fun H => W.bin .add x_13 (.int .i64 1) H fun v21 H =>
   I1 (out_4', v21, ()) H)
def f24.l1 (Q : Post) (v7 : Value) (v1 : Value) (I1 : St [4, 13] → Heap → Prop) (out_4 : Value) (x_13 : Value) (H : Heap) : Prop :=
  W.bin .lss x_13 v7 H fun v8 H =>
  W.cond v8 H
  (fun H => W.fieldAddr 0 v1 H fun v9 H =>
   W.get v9 H fun v10 H =>
   W.indexAddr 1 v10 x_13 H fun v11 H =>
   W.get v11 H fun v12 H =>
   W.len v12 H fun v13 H =>
   W.loop (S := St [4, 22]) (fun I2 s H => f24.l2 Q v13 v1 x_13 I1 I2 s.1 s.2.1 H) (out_4, (.int .i64 0), ()) H)
  (fun H => Q (.tuple #[out_4, (.int .i64 0)]) H)
def f24.w (Q : Post) (g_0 : Value) (H : Heap) : Prop :=
  W.box g_0 26 H fun v1 H =>
  W.getN 2 v1 H fun v2 H =>
  W.call Tryz.prog (.func (.func 28) #[] #[]) #[v2] H fun v3 H =>
  W.un .not v3 H fun v4 H =>
  W.cond v4 H
  (fun H => Q (.tuple #[(.slice none 0 0), (.int .i64 1)]) H)
  (fun H => W.fieldAddr 0 v1 H fun v5 H =>
   W.get v5 H fun v6 H =>
   W.len v6 H fun v7 H =>
   W.loop (S := St [4, 13]) (fun I1 s H => f24.l1 Q v7 v1 I1 s.1 s.2.1 H) ((.slice none 0 0), (.int .i64 0), ()) H)
theorem f24.enter {Q : Post} {g_0 : Value} {H : Heap} (h : f24.w Q g_0 H) : Runs Tryz.prog 24 #[g_0] H Q :=
  fn_enter (ann := [(5, [4, 13]), (8, [4, 22])]) (by kernel_rfl) Tryz.func24 rfl (by kernel_rfl) h (by kernel_rfl)

/- loop.example/g01343/spec.PureEquilibria -/
def f25.j1 (Q : Post) (j_6 : Value) (I2 : St [4, 6] → Heap → Prop) (out_4'' : Value) (H : Heap) : Prop :=
  W.bin .add j_6 (.int .i64 1) H fun v67 H =>
  I2 (out_4'', v67, ()) H
def f25.l4 (Q : Post) (v1 : Value) (i_5 : Value) (j_6 : Value) (out_4' : Value) (I2 : St [4, 6] → Heap → Prop) (I4 : St [7, 9] → Heap → Prop) (good_7' : Value) (k_9 : Value) (H : Heap) : Prop :=
  W.fieldAddr 0 v1 H fun v39 H =>
  W.get v39 H fun v40 H =>
  W.indexAddr 1 v40 i_5 H fun v41 H =>
  W.get v41 H fun v42 H =>
  W.len v42 H fun v43 H =>
  W.bin .lss k_9 v43 H fun v44 H =>
  W.cond v44 H
  (fun H => W.guarded good_7' true (fun H k => W.fieldAddr 1 v1 H k) H fun v45 H =>
   W.guarded good_7' true (fun H k => W.get v45 H k) H fun v46 H =>
   W.guarded good_7' true (fun H k => k i_5 H) H fun v47 H =>
   W.guarded good_7' true (fun H k => W.indexAddr 1 v46 v47 H k) H fun v48 H =>
   W.guarded good_7' true (fun H k => W.get v48 H k) H fun v49 H =>
   W.guarded good_7' true (fun H k => k k_9 H) H fun v50 H =>
   W.guarded good_7' true (fun H k => W.indexAddr 1 v49 v50 H k) H fun v51 H =>
   W.guarded good_7' true (fun H k => W.get v51 H k) H fun v52 H =>
   W.guarded good_7' true (fun H k => W.fieldAddr 1 v1 H k) H fun v53 H =>
   W.guarded good_7' true (fun H k => W.get v53 H k) H fun v54 H =>
   W.guarded good_7' true (fun H k => k i_5 H) H fun v55 H =>
   W.guarded good_7' true (fun H k => W.indexAddr 1 v54 v55 H k) H fun v56 H =>
   W.guarded good_7' true (fun H k => W.get v56 H k) H fun v57 H =>
   W.guarded good_7' true (fun H k => k j_6 H) H fun v58 H =>
   W.guarded good_7' true (fun H k => W.indexAddr 1 v57 v58 H k) H fun v59 H =>
   W.guarded good_7' true (fun H k => W.get v59 H k) H fun v60 H =>
   W.guarded good_7' true (fun H k => W.bin .leq v52 v60 H k) H fun v61 H =>
   W.pick good_7' v61 (.bool false) H fun v62 H =>
   W.bin .add k_9 (.int .i64 1) H fun v63 H =>
   I4 (v62, v63, ()) H)
  (fun H => W.cond good_7' H
   (fun H => W.lit 2 [(.int .i64 0)] 2 [(0, 1, i_5), (1, 1, j_6)] H fun v64 H =>
    W.lit 1 [(.slice none 0 0)] 35 [(0, 1, v64)] H fun v65 H =>
    W.append 1 35 out_4' v65 H fun v66 H =>
    f25.j1 Q j_6 I2 v66 H)
   (fun H => f25.j1 Q j_6 I2 out_4' H))
def f25.l3 (Q : Post) (v1 : Value) (j_6 : Value) (i_5 : Value) (out_4' : Value) (I2 : St [4, 6] → Heap → Prop) (I3 : St [7, 8] → Heap → Prop) (good_7 : Value) (k_8 : Value) (H : Heap) : Prop :=
  W.fieldAddr 0 v1 H fun v16 H =>
  W.get v16 H fun v17 H =>
  W.len v17 H fun v18 H =>
  W.bin .lss k_8 v18 H fun v19 H =>
  W.cond v19 H
  (fun H => W.guarded good_7 true (fun H k => W.fieldAddr 0 v1 H k) H fun v20 H =>
   W.guarded good_7 true (fun H k => W.get v20 H k) H fun v21 H =>
   W.guarded good_7 true (fun H k => k k_8 H) H fun v22 H =>
   W.guarded good_7 true (fun H k => W.indexAddr 1 v21 v22 H k) H fun v23 H =>
   W.guarded good_7 true (fun H k => W.get v23 H k) H fun v24 H =>
   W.guarded good_7 true (fun H k => k j_6 H) H fun v25 H =>
   W.guarded good_7 true (fun H k => W.indexAddr 1 v24 v25 H k) H fun v26 H =>
   W.guarded good_7 true (fun H k => W.get v26 H k) H fun v27 H =>
   W.guarded good_7 true (fun H k => W.fieldAddr 0 v1 H k) H fun v28 H =>
   W.guarded good_7 true (fun H k => W.get v28 H k) H fun v29 H =>
   W.guarded good_7 true (fun H k => k i_5 H) H fun v30 H =>
   W.guarded good_7 true (fun H k => W.indexAddr 1 v29 v30 H k) H fun v31 H =>
   W.guarded good_7 true (fun H k => W.get v31 H k) H fun v32 H =>
   W.guarded good_7 true (fun H k => k j_6 H) H fun v33 H =>
   W.guarded good_7 true (fun H k => W.indexAddr 1 v32 v33 H k) H fun v34 H =>
   W.guarded good_7 true (fun H k => W.get v34 H k) H fun v35 H =>
   W.guarded good_7 true (fun H k => W.bin .leq v27 v35 H k) H fun v36 H =>
   W.pick good_7 v36 (.bool false) H fun v37 H =>
   W.bin .add k_8 (.int .i64 1) H fun v38 H =>
   I3 (v37, v38, ()) H)
  (fun H => W.loop (S := St [7, 9]) (fun I4 s H => f25.l4 Q v1 i_5 j_6 out_4' I2 I4 s.1 s.2.1 H) (good_7, (.int .i64 0), ()) H)
def f25.l2 (Q : Post) (v1 : Value) (i_5 : Value) (I1 : St [4, 5] → Heap → Prop) (I2 : St [4, 6] → Heap → Prop) (out_4' : Value) (j_6 : Value) (H : Heap) : Prop :=
  W.fieldAddr 0 v1 H fun v10 H =>
  W.get v10 H fun v11 H =>
  W.indexAddr 1 v11 i_5 H fun v12 H =>
  W.get v12 H fun v13 H =>
  W.len v13 H fun v14 H =>
  W.bin .lss j_6 v14 H fun v15 H =>
  W.cond v15 H
  (fun H => W.loop (S := St [7, 8]) (fun I3 s H => f25.l3 Q v1 j_6 i_5 out_4' I2 I3 s.1 s.2.1 H) ((.bool true), (.int .i64 0), ()) H)
  (fun H => W.bin .add i_5 (.int .i64 1) H fun v68 H =>
   I1 (out_4', v68, ()) H)
def f25.l1 (Q : Post) (v1 : Value) (I1 : St [4, 5] → Heap → Prop) (out_4 : Value) (i_5 : Value) (H : Heap) : Prop :=
  W.fieldAddr 0 v1 H fun v6 H =>
  W.get v6 H fun v7 H =>
  W.len v7 H fun v8 H =>
  W.bin .lss i_5 v8 H fun v9 H =>
  W.cond v9 H
  (fun H => W.loop (S := St [4, 6]) (fun I2 s H => f25.l2 Q v1 i_5 I1 I2 s.1 s.2.1 H) (out_4, (.int .i64 0), ()) H)
  (fun H => Q (.tuple #[out_4, (.int .i64 0)]) H)
def f25.w (Q : Post) (g_0 : Value) (H : Heap) : Prop :=
  W.box g_0 26 H fun v1 H =>
  W.getN 2 v1 H fun v2 H =>
  W.call Tryz.prog (.func (.func 57) #[] #[]) #[v2] H fun v3 H =>
  W.un .not v3 H fun v4 H =>
  W.cond v4 H
  (fun H => Q (.tuple #[(.slice none 0 0), (.int .i64 1)]) H)
  (fun H => W.lit 0 [(.slice none 0 0)] 35 [] H fun v5 H =>
   W.loop (S := St [4, 5]) (fun I1 s H => f25.l1 Q v1 I1 s.1 s.2.1 H) (v5, (.int .i64 0), ()) H)
theorem f25.enter {Q : Post} {g_0 : Value} {H : Heap} (h : f25.w Q g_0 H) : Runs Tryz.prog 25 #[g_0] H Q :=
  fn_enter (ann := [(5, [4, 5]), (8, [4, 6]), (12, [7, 8]), (16, [7, 9])]) (by kernel_rfl) Tryz.func25 rfl (by kernel_rfl) h (by kernel_rfl)

/- loop.example/g01343/impl.IsConstantSum -/
def f41.l2 (Q : Post) (v11 : Value) (v10 : Value) (v1 : Value) (x_14 : Value) (I1 : St [14] → Heap → Prop) (I2 : St [21] → Heap → Prop) (x_21 : Value) (H : Heap) : Prop :=
  W.bin .lss x_21 v11 H fun v12 H =>
  W.cond v12 H
  (fun H => W.indexAddr 1 v10 x_21 H fun v13 H =>
   W.get v13 H fun v14 H =>
   W.fieldAddr 1 v1 H fun v15 H =>
   W.get v15 H fun v16 H =>
   W.indexAddr 1 v16 x_14 H fun v17 H =>
   W.get v17 H fun v18 H =>
   W.indexAddr 1 v18 x_21 H fun v19 H =>
   W.get v19 H fun v20 H =>
   W.bin .add v14 v20 H fun v21 H =>
   W.fieldAddr 0 v1 H fun v22 H =>
   W.get v22 H fun v23 H =>
   W.indexAddr 1 v23 (.int .i64 0) H fun v24 H =>
   W.get v24 H fun v25 H =>
   W.indexAddr 1 v25 (.int .i64 0) H fun v26 H =>
   W.get v26 H fun v27 H =>
   W.fieldAddr 1 v1 H fun v28 H =>
   W.get v28 H fun v29 H =>
   W.indexAddr 1 v29 (.int .i64 0) H fun v30 H =>
   W.get v30 H fun v31 H =>
   W.indexAddr 1 v31 (.int .i64 0) H fun v32 H =>
   W.get v32 H fun v33 H =>
   W.bin .add v27 v33 H fun v34 H =>
   W.bin .neq v21 v34 H fun v35 H =>
   W.cond v35 H
   (fun H => Q (.tuple #[(.bool false), (.int .i64 0)]) H)
   (fun H => W.bin .add x_21 (.int .i64 1) H fun v36 H =>
    I2 (v36, ()) H))
  (fun H => W.bin .add x_14 (.int .i64 1) H fun v37 H =>
   I1 (v37, ()) H)
def f41.l1 (Q : Post) (v7 : Value) (v6 : Value) (v1 : Value) (I1 : St [14] → Heap → Prop) (x_14 : Value) (H : Heap) : Prop :=
  W.bin .lss x_14 v7 H fun v8 H =>
  W.cond v8 H
  (fun H => W.indexAddr 1 v6 x_14 H fun v9 H =>
   W.get v9 H fun v10 H =>
   W.len v10 H fun v11 H =>
   W.loop (S := St [21]) (fun I2 s H => f41.l2 Q v11 v10 v1 x_14 I1 I2 s.1 H) ((.int .i64 0), ()) H)
  (fun H => Q (.tuple #[(.bool true), (.int .i64 0)]) H)
def f41.w (Q : Post) (g_0 : Value) (H : Heap) : Prop :=
  W.box g_0 26 H fun v1 H =>
  W.getN 2 v1 H fun v2 H =>
  W.call Tryz.prog (.func (.func 28) #[] #[]) #[v2] H fun v3 H =>
  W.un .not v3 H fun v4 H =>
  W.cond v4 H
  (fun H => Q (.tuple #[(.bool false), (.int .i64 1)]) H)
  (fun H => W.fieldAddr 0 v1 H fun v5 H =>
   W.get v5 H fun v6 H =>
   W.len v6 H fun v7 H =>
   W.loop (S := St [14]) (fun I1 s H => f41.l1 Q v7 v6 v1 I1 s.1 H) ((.int .i64 0), ()) H)
theorem f41.enter {Q : Post} {g_0 : Value} {H : Heap} (h : f41.w Q g_0 H) : Runs Tryz.prog 41 #[g_0] H Q :=
  fn_enter (ann := [(4, [14]), (7, [21])]) (by kernel_rfl) Tryz.func41 rfl (by kernel_rfl) h (by kernel_rfl)

/- loop.example/g01343/spec.IsConstantSum -/
def f42.l2 (Q : Post) (v1 : Value) (i_4 : Value) (I1 : St [4] → Heap → Prop) (I2 : St [5] → Heap → Prop) (j_5 : Value) (H : Heap) : Prop :=
  W.fieldAddr 0 v1 H fun v9 H =>
  W.get v9 H fun v10 H =>
  W.indexAddr 1 v10 i_4 H fun v11 H =>
  W.get v11 H fun v12 H =>
  W.len v12 H fun v13 H =>
  W.bin .lss j_5 v13 H fun v14 H =>
  W.cond v14 H
  (fun H => W.fieldAddr 0 v1 H fun v15 H =>
   W.get v15 H fun v16 H =>
   W.indexAddr 1 v16 i_4 H fun v17 H =>
   W.get v17 H fun v18 H =>
   W.indexAddr 1 v18 j_5 H fun v19 H =>
   W.get v19 H fun v20 H =>
   W.fieldAddr 1 v1 H fun v21 H =>
   W.get v21 H fun v22 H =>
   W.indexAddr 1 v22 i_4 H fun v23 H =>
   W.get v23 H fun v24 H =>
   W.indexAddr 1 v24 j_5 H fun v25 H =>
   W.get v25 H fun v26 H =>
   W.bin .add v20 v26 H fun v27 H =>
   W.fieldAddr 0 v1 H fun v28 H =>
   W.get v28 H fun v29 H =>
   W.indexAddr 1 v29 (.int .i64 0) H fun v30 H =>
   W.get v30 H fun v31 H =>
   W.indexAddr 1 v31 (.int .i64 0) H fun v32 H =>
   W.get v32 H fun v33 H =>
   W.fieldAddr 1 v1 H fun v34 H =>
   W.get v34 H fun v35 H =>
   W.indexAddr 1 v35 (.int .i64 0) H fun v36 H =>
   W.get v36 H fun v37 H =>
   W.indexAddr 1 v37 (.int .i64 0) H fun v38 H =>
   W.get v38 H fun v39 H =>
   W.bin .add v33 v39 H fun v40 H =>
   W.bin .neq v27 v40 H fun v41 H =>
   W.cond v41 H
   (fun H => Q (.tuple #[(.bool false), (.int .i64 0)]) H)
   (fun H => W.bin .add j_5 (.int .i64 1) H fun v42 H =>
    I2 (v42, ()) H))
  (fun H => W.bin .add i_4 (.int .i64 1) H fun v43 H =>
   I1 (v43, ()) H)
def f42.l1 (Q : Post) (v1 : Value) (I1 : St [4] → Heap → Prop) (i_4 : Value) (H : Heap) : Prop :=
  W.fieldAddr 0 v1 H fun v5 H =>
  W.get v5 H fun v6 H =>
  W.len v6 H fun v7 H =>
  W.bin .lss i_4 v7 H fun v8 H =>
  W.cond v8 H
  (fun H => W.loop (S := St [5]) (fun I2 s H => f42.l2 Q v1 i_4 I1 I2 s.1 H) ((.int .i64 0), ()) H)
  (fun H => Q (.tuple #[(.bool true), (.int .i64 0)]) H)
def f42.w (Q : Post) (g_0 : Value) (H : Heap) : Prop :=
  W.box g_0 26 H fun v1 H =>
  W.getN 2 v1 H fun v2 H =>
  W.call Tryz.prog (.func (.func 57) #[] #[]) #[v2] H fun v3 H =>
  W.un .not v3 H fun v4 H =>
  W.cond v4 H
  (fun H => Q (.tuple #[(.bool false), (.int .i64 1)]) H)
  (fun H => W.loop (S := St [4]) (fun I1 s H => f42.l1 Q v1 I1 s.1 H) ((.int .i64 0), ()) H)
theorem f42.enter {Q : Post} {g_0 : Value} {H : Heap} (h : f42.w Q g_0 H) : Runs Tryz.prog 42 #[g_0] H Q :=
  fn_enter (ann := [(4, [4]), (7, [5])]) (by kernel_rfl) Tryz.func42 rfl (by kernel_rfl) h (by kernel_rfl)

/- loop.example/g01343/impl.ExchangePlayers -/
def f30.w (Q : Post) (g_0 : Value) (H : Heap) : Prop :=
  W.box g_0 26 H fun v1 H =>
  W.new [(.slice none 0 0), (.slice none 0 0)] 26 H fun v2 H =>
  W.getN 2 v1 H fun v3 H =>
  W.call Tryz.prog (.func (.func 28) #[] #[]) #[v3] H fun v4 H =>
  W.un .not v4 H fun v5 H =>
  W.cond v5 H
  (fun H => W.build [(.slice none 0 0), (.slice none 0 0)] [] H fun v6 H =>
   W.putN 2 v2 v6 H fun _ H =>
   W.getN 2 v2 H fun v7 H => Q (.tuple #[v7, (.int .i64 1)]) H)
  (fun H => W.fieldAddr 1 v1 H fun v8 H =>
   W.get v8 H fun v9 H =>
   W.callQ Tryz.prog (.func (.func 93) #[] #[]) #[v9] H fun v10 H =>
   W.fieldAddr 0 v1 H fun v11 H =>
   W.get v11 H fun v12 H =>
   W.callQ Tryz.prog (.func (.func 93) #[] #[]) #[v12] H fun v13 H =>
   W.build [(.slice none 0 0), (.slice none 0 0)] [(0, 1, v10), (1, 1, v13)] H fun v14 H =>
   W.putN 2 v2 v14 H fun _ H =>
   W.getN 2 v2 H fun v15 H => Q (.tuple #[v15, (.int .i64 0)]) H)
theorem f30.enter {Q : Post} {g_0 : Value} {H : Heap} (h : f30.w Q g_0 H) : Runs Tryz.prog 30 #[g_0] H Q :=
  fn_enter (ann := []) (by kernel_rfl) Tryz.func30 rfl (by kernel_rfl) h (by kernel_rfl)

/- loop.example/g01343/spec.ExchangePlayers -/
def f40.w (Q : Post) (g_0 : Value) (H : Heap) : Prop :=
  W.box g_0 26 H fun v1 H =>
  W.new [(.slice none 0 0), (.slice none 0 0)] 26 H fun v2 H =>
  W.getN 2 v1 H fun v3 H =>
  W.call Tryz.prog (.func (.func 57) #[] #[]) #[v3] H fun v4 H =>
  W.un .not v4 H fun v5 H =>
  W.cond v5 H
  (fun H => W.build [(.slice none 0 0), (.slice none 0 0)] [] H fun v6 H =>
   W.putN 2 v2 v6 H fun _ H =>
   W.getN 2 v2 H fun v7 H => Q (.tuple #[v7, (.int .i64 1)]) H)
  (fun H => W.fieldAddr 1 v1 H fun v8 H =>
   W.get v8 H fun v9 H =>
   W.callQ Tryz.prog (.func (.func 77) #[] #[]) #[v9] H fun v10 H =>
   W.fieldAddr 0 v1 H fun v11 H =>
   W.get v11 H fun v12 H =>
   W.callQ Tryz.prog (.func (.func 77) #[] #[]) #[v12] H fun v13 H =>
   W.build [(.slice none 0 0), (.slice none 0 0)] [(0, 1, v10), (1, 1, v13)] H fun v14 H =>
   W.putN 2 v2 v14 H fun _ H =>
   W.getN 2 v2 H fun v15 H => Q (.tuple #[v15, (.int .i64 0)]) H)
theorem f40.enter {Q : Post} {g_0 : Value} {H : Heap} (h : f40.w Q g_0 H) : Runs Tryz.prog 40 #[g_0] H Q :=
  fn_enter (ann := []) (by kernel_rfl) Tryz.func40 rfl (by kernel_rfl) h (by kernel_rfl)

/- loop.example/g01343/spec.IsGame -/
def f29.w (Q : Post) (g_0 : Value) (H : Heap) : Prop :=
  W.box g_0 26 H fun v1 H =>
  W.getN 2 v1 H fun v2 H =>
  W.call Tryz.prog (.func (.func 57) #[] #[]) #[v2] H fun v3 H =>
  Q v3 H
theorem f29.enter {Q : Post} {g_0 : Value} {H : Heap} (h : f29.w Q g_0 H) : Runs Tryz.prog 29 #[g_0] H Q :=
  fn_enter (ann := []) (by kernel_rfl) Tryz.func29 rfl (by kernel_rfl) h (by kernel_rfl)


def goodA (g : Game) (i j m : Nat) : Bool := (List.range m).all fun k => decide (mAt g.1 k j ≤ mAt g.1 i j)
def goodB (g : Game) (i j m : Nat) : Bool := (List.range m).all fun k => decide (mAt g.2 i k ≤ mAt g.2 i j)
def pureB (g : Game) (i j : Nat) : Bool := goodA g i j g.1.length && goodB g i j (lw g)
def pureRow (g : Game) (i m : Nat) : List (List Int) := ((List.range m).filter (pureB g i)).map fun j => [((i : Nat) : Int), ((j : Nat) : Int)]
def pureTo (g : Game) (m : Nat) : List (List Int) := (List.range m).flatMap fun i => pureRow g i (lw g)
noncomputable def pureRes (g : Game) : List (List Int) × Int := open Classical in if IsGm g then (pureTo g g.1.length, 0) else ([], 1)

theorem all_step {m : Nat} {p : Nat → Bool} : (List.range (m + 1)).all p = ((List.range m).all p && p m) := by
  rw [List.range_succ, List.all_append]
  simp

theorem goodA_step (g : Game) (i j m : Nat) : goodA g i j (m + 1) = (goodA g i j m && decide (mAt g.1 m j ≤ mAt g.1 i j)) := all_step
theorem goodB_step (g : Game) (i j m : Nat) : goodB g i j (m + 1) = (goodB g i j m && decide (mAt g.2 i m ≤ mAt g.2 i j)) := all_step

theorem goodA_no {g : Game} {i j k m : Nat} (hk : k < m) (h : mAt g.1 i j < mAt g.1 k j) : goodA g i j m = false := by
  unfold goodA
  rw [List.all_eq_false]
  exact ⟨k, by simpa using hk, fun q => by have := of_decide_eq_true q; omega⟩

theorem pureRow_step (g : Game) (i m : Nat) : pureRow g i (m + 1) = pureRow g i m ++ (if pureB g i m = true then [[((i : Nat) : Int), ((m : Nat) : Int)]] else []) := by
  unfold pureRow
  rw [List.range_succ, List.filter_append, List.map_append]
  congr 1
  by_cases h : pureB g i m = true
  · simp [h]
  · simp [h]

theorem pureTo_step (g : Game) (m : Nat) : pureTo g (m + 1) = pureTo g m ++ pureRow g m (lw g) := by
  unfold pureTo
  rw [List.range_succ, List.flatMap_append]
  simp

theorem pureRow_len (g : Game) (i m : Nat) : (pureRow g i m).length ≤ m := by
  unfold pureRow
  rw [List.length_map]
  exact Nat.le_trans (List.length_filter_le _ _) (by simp)

theorem pureTo_len (g : Game) (m : Nat) : (pureTo g m).length ≤ m * lw g := by
  induction m with
  | zero => simp [pureTo]
  | succ m ih =>
    rw [pureTo_step, List.length_append, Nat.succ_mul]
    have := pureRow_len g m (lw g)
    omega

theorem mat_at {m : List (List Int)} {i j : Nat} (hi : i < m.length) (hj : j < m[i].length) : mAt m i j = m[i][j] := by
  unfold mAt
  rw [getD_row hi, getD_at hj]

theorem fn91 {H0 : Heap} {Q : Post} {cs : List Value} {g : Game} {i j : Nat} (hr : Has RGame H0 cs g) (hg : IsGm g) (hi : i < g.1.length) (hj : j < lw g) (hQ : ∀ H', H0.Le H' → Q (.bool (pureB g i j)) H') : Runs Tryz.prog 91 #[.agg cs.toArray, .int .i64 (i : Nat), .int .i64 (j : Nat)] H0 Q := by
  obtain ⟨u1, u2, rfl, r1, r2⟩ := hasGame hr
  have k4 := hg.k4
  have l4 := hg.l4
  have bl := hg.bl
  have hib : i < g.2.length := by omega
  have h := ((Loc.start H0).lent r1).lent r2
  have ha : ∀ k (hk : k < g.1.length), j < g.1[k].length := fun k hk => by rw [(hg.a _ (List.getElem_mem hk)).1]; exact hj
  have hbr : g.2[i].length = lw g := (hg.b _ (List.getElem_mem hib)).1
  refine f91.enter ?_
  unfold f91.w
  refine Wl.box (cs := [u1, u2]) h fun H b h => Wi.fieldAddr0 (Wl.get (b := b) h rfl (Wl.len (v := u1) (xs := g.1) h ?_))
  refine W.for_rule g.1.length (fun k st H' => H' = H ∧ st = (.int .i64 (k : Nat), ()) ∧ goodA g i j k = true) ⟨rfl, rfl, rfl⟩ ?_
  rintro k st H' J hk ⟨rfl, rfl, hok⟩ hJ
  refine Wi.lssC (fun hlt => Wi.tru ?_) fun hge => Wi.fls ?_
  · have hkl : k < g.1.length := by omega
    refine Wl.at1H rfl (h.rd (cs := [u1]) (r := RSS) (x := g.1)) hkl fun w hw => Wl.atIntH hw (ha k hkl) fun _ => Wi.fieldAddr0 (Wl.get (b := b) h rfl (Wl.at1H rfl (h.rd (cs := [u1]) (r := RSS) (x := g.1)) hi fun w2 hw2 => Wl.atIntH hw2 (ha i hi) fun _ => ?_))
    rw [← mat_at hkl (ha k hkl), ← mat_at hi (ha i hi)]
    refine Wi.gtrC (fun hgt => Wi.tru ?_) fun hle => Wi.fls (Wi.add (by unfold I64; omega) (hJ _ _ hkl ⟨rfl, rfl, ?_⟩))
    · have := hQ _ h.le
      unfold pureB at this
      rw [goodA_no hkl hgt] at this
      exact this
    · rw [goodA_step, hok, decide_eq_true (Int.not_lt.1 hle)]
      rfl
  · have hkl : k = g.1.length := by omega
    subst hkl
    refine Wi.fieldAddr (Wl.get (b := b) (o := 1) h rfl (Wl.at1H rfl (h.rd (cs := [u2]) (r := RSS) (x := g.2)) hib fun w hw => Wi.callQ (fn94 hw (by omega) fun r hr hle => ⟨.refl _, ?_⟩)))
    refine Wi.fieldAddr (Wl.get (b := b) (o := 1) h rfl (Wl.at1H rfl (h.rd (cs := [u2]) (r := RSS) (x := g.2)) hib fun w hw => Wl.atIntH hw (i := j) (by omega) fun _ => Wi.eql ?_))
    have e : (r == g.2[i][j]'(by omega)) = pureB g i j := by
      unfold pureB
      rw [hok, Bool.true_and, Bool.eq_iff_iff]
      unfold goodB
      rw [List.all_eq_true, beq_iff_eq]
      constructor
      · intro q k hk
        have hk : k < lw g := by simpa using hk
        refine decide_eq_true ?_
        rw [mat_at hib (by omega), mat_at hib (by omega), ← q]
        exact hle _ (List.getElem_mem _)
      · intro q
        obtain ⟨k, hk, e⟩ := List.mem_iff_getElem.1 hr
        have h1 := of_decide_eq_true (q k (by simp; omega))
        rw [mat_at hib (by omega), mat_at hib (by omega)] at h1
        have h2 := hle _ (List.getElem_mem (show j < g.2[i].length by omega))
        rw [← e] at h2 ⊢
        omega
    rw [e]
    exact hQ _ h.le

/-- A row with both numbers is appended. -/
theorem pure_push {H0 H : Heap} {L : List (Atom H0.next)} {K : Post} {o : Value} {xs : List (List Int)} {i j : Nat} (h : Ab.Loc H0 (.grow RS 35 o xs :: L) H) (hi : i < 100) (hj : j < 100) (hl : xs.length ≤ 1000) (hK : ∀ H o, Ab.Loc H0 (.grow RS 35 o (xs ++ [[((i : Nat) : Int), ((j : Nat) : Int)]]) :: L) H → K o H) :
    W.lit 2 [.int .i64 0] 2 [(0, 1, .int .i64 (i : Nat)), (1, 1, .int .i64 (j : Nat))] H fun v17 H => W.lit 1 [.slice none 0 0] 35 [(0, 1, v17)] H fun v18 H => W.append 1 35 o v18 H K := by
  refine Wl.litN [((i : Nat) : Int), ((j : Nat) : Int)] rfl (by simp) (fun x hx => by
    simp only [List.mem_cons, List.not_mem_nil, or_false] at hx
    unfold I64
    omega) rfl h fun H w h => ?_
  have hcu := (h.rd (cs := [w]) (r := RS)).one
  refine Wl.pushO (r := RS) (u := w) (x := [((i : Nat) : Int), ((j : Nat) : Int)]) (i := 1) (j := 0) (L2 := fun v' => .data RS [w] [((i : Nat) : Int), ((j : Nat) : Int)] :: .grow RS 35 v' (xs ++ [[((i : Nat) : Int), ((j : Nat) : Int)]]) :: L) (L3 := fun v' => .emp :: .grow RS 35 v' (xs ++ [[((i : Nat) : Int), ((j : Nat) : Int)]]) :: L) rfl h (by decide) hcu (by omega) fun H o' h => hK H o' h.tl

theorem fn24 {H0 : Heap} {Q : Post} {cs : List Value} {g : Game} (hr : Has RGame H0 cs g) (hw : wGame g ≤ 1048576) (hQ : ∀ H' u, Fresh RSS H0 [u] (pureRes g).1 H' → Q (.tuple #[u, .int .i64 (pureRes g).2]) H') : Runs Tryz.prog 24 #[.agg cs.toArray] H0 Q := by
  classical
  obtain ⟨u1, u2, rfl, r1, r2⟩ := hasGame hr
  have h := ((Loc.start H0).lent r1).lent hr
  refine f24.enter ?_
  unfold f24.w
  refine Wl.box (cs := [u1, u2]) h fun H b h => Wl.getA (b := b) h rfl (Wi.call (fn28 (h.rd (cs := [u1, u2]) (x := g)) hw fun H t l ht => ?_))
  have h := h.to l
  cases t with
  | false =>
    simp only [gw]
    have e : pureRes g = ([], 1) := by unfold pureRes; rw [if_neg (fun q => Bool.noConfusion (ht.2 q))]
    have := hQ H (.slice none 0 0) (by rw [e]; exact fresh_nil h.le)
    rw [e] at this
    exact this
  | true =>
  have hg := ht.1 rfl
  have k4 := hg.k4
  have l4 := hg.l4
  have hres : pureRes g = (pureTo g g.1.length, 0) := by unfold pureRes; rw [if_pos hg]
  simp only [gw]
  refine Wi.fieldAddr0 (Wl.get (b := b) h rfl (Wl.len (v := u1) (xs := g.1) h ?_))
  have h := h.nilG RS 35
  refine W.for_rule g.1.length (fun i st H => ∃ o, st = (o, .int .i64 (i : Nat), ()) ∧ Ab.Loc H0 [.grow RS 35 o (pureTo g i), .box b [u1, u2], .lent RGame [u1, u2] g, .lent RSS [u1] g.1] H) ⟨_, rfl, h⟩ ?_
  rintro i st H J hi ⟨o, rfl, h⟩ hJ
  unfold f24.l1
  refine Wi.lssC (fun hlt => Wi.tru ?_) fun hge => Wi.fls ?_
  · have hik : i < g.1.length := by omega
    refine Wi.fieldAddr0 (Wl.get (b := b) h rfl (Wl.at1H rfl (h.rd (cs := [u1]) (r := RSS) (x := g.1)) hik fun w hw => Wl.lenH hw ?_))
    rw [(hg.a _ (List.getElem_mem hik)).1]
    have h : Ab.Loc H0 [.grow RS 35 o (pureTo g i ++ pureRow g i 0), .box b [u1, u2], .lent RGame [u1, u2] g, .lent RSS [u1] g.1] H := by
      simpa [pureRow] using h
    refine W.for_rule (lw g) (fun j st H => ∃ o, st = (o, .int .i64 (j : Nat), ()) ∧ Ab.Loc H0 [.grow RS 35 o (pureTo g i ++ pureRow g i j), .box b [u1, u2], .lent RGame [u1, u2] g, .lent RSS [u1] g.1] H) ⟨_, rfl, h⟩ ?_
    rintro j st H J2 hj ⟨o, rfl, h⟩ hJ2
    unfold f24.l2
    have n1 := pureTo_len g i
    have n2 := pureRow_len g i j
    have n3 : i * lw g ≤ 4 * 4 := Nat.mul_le_mul (by omega) l4
    refine Wi.lssC (fun hlt2 => Wi.tru ?_) fun hge2 => Wi.fls ?_
    · have hjl : j < lw g := by omega
      refine Wl.getA (b := b) h rfl (Wi.call (fn91 (h.rd (cs := [u1, u2]) (x := g)) hg hik hjl fun H l => ?_))
      have h := h.to l
      have est := pureRow_step g i j
      cases hb : pureB g i j with
      | true =>
        rw [if_pos hb] at est
        refine Wi.tru (pure_push h (by omega) (by omega) (by simp; omega) fun H o' h => ?_)
        unfold f24.j1
        refine Wi.add (by unfold I64; omega) (hJ2 _ _ hjl ⟨o', rfl, ?_⟩)
        rw [est, ← List.append_assoc]
        exact h
      | false =>
        rw [if_neg (by rw [hb]; exact Bool.false_ne_true), List.append_nil] at est
        refine Wi.fls ?_
        unfold f24.j1
        refine Wi.add (by unfold I64; omega) (hJ2 _ _ hjl ⟨o, rfl, ?_⟩)
        rw [est]
        exact h
    · have hjl : j = lw g := by omega
      subst hjl
      rw [← pureTo_step] at h
      exact Wi.add (by unfold I64; omega) (hJ _ _ hik ⟨o, rfl, h⟩)
  · have hik : i = g.1.length := by omega
    subst hik
    have := hQ H o (by rw [hres]; exact (h.asData (i := 0) rfl).ret (i := 0) rfl)
    rw [hres] at this
    exact this

theorem fn25 {H0 : Heap} {Q : Post} {cs : List Value} {g : Game} (hr : Has RGame H0 cs g) (hw : wGame g ≤ 1048576) (hQ : ∀ H' u, Fresh RSS H0 [u] (pureRes g).1 H' → Q (.tuple #[u, .int .i64 (pureRes g).2]) H') : Runs Tryz.prog 25 #[.agg cs.toArray] H0 Q := by
  classical
  obtain ⟨u1, u2, rfl, r1, r2⟩ := hasGame hr
  have h := (((Loc.start H0).lent r2).lent r1).lent hr
  refine f25.enter ?_
  unfold f25.w
  refine Wl.box (cs := [u1, u2]) h fun H b h => Wl.getA (b := b) h rfl (Wi.call (fn57 (h.rd (cs := [u1, u2]) (x := g)) hw fun H t l ht => ?_))
  have h := h.to l
  cases t with
  | false =>
    simp only [gw]
    have e : pureRes g = ([], 1) := by unfold pureRes; rw [if_neg (fun q => Bool.noConfusion (ht.2 q))]
    have := hQ H (.slice none 0 0) (by rw [e]; exact fresh_nil h.le)
    rw [e] at this
    exact this
  | true =>
  have hg := ht.1 rfl
  have k4 := hg.k4
  have l4 := hg.l4
  have bl := hg.bl
  have hres : pureRes g = (pureTo g g.1.length, 0) := by unfold pureRes; rw [if_pos hg]
  simp only [gw]
  refine Wl.lit0 (ty := 35) RS rfl h fun H o h => ?_
  refine W.for_rule g.1.length (fun i st H => ∃ o, st = (o, .int .i64 (i : Nat), ()) ∧ Ab.Loc H0 [.grow RS 35 o (pureTo g i), .box b [u1, u2], .lent RGame [u1, u2] g, .lent RSS [u1] g.1, .lent RSS [u2] g.2] H) ⟨o, rfl, h⟩ ?_
  rintro i st H J hi ⟨o, rfl, h⟩ hJ
  unfold f25.l1
  refine Wi.fieldAddr0 (Wl.get (b := b) h rfl (Wl.len (v := u1) (xs := g.1) h (Wi.lssC (fun hlt => Wi.tru ?_) fun hge => Wi.fls ?_)))
  · have hik : i < g.1.length := by omega
    have hib : i < g.2.length := by omega
    have ha : ∀ k (hk : k < g.1.length), g.1[k].length = lw g := fun k hk => (hg.a _ (List.getElem_mem hk)).1
    have hbr : g.2[i].length = lw g := (hg.b _ (List.getElem_mem hib)).1
    have h : Ab.Loc H0 [.grow RS 35 o (pureTo g i ++ pureRow g i 0), .box b [u1, u2], .lent RGame [u1, u2] g, .lent RSS [u1] g.1, .lent RSS [u2] g.2] H := by
      simpa [pureRow] using h
    refine W.for_rule (lw g) (fun j st H => ∃ o, st = (o, .int .i64 (j : Nat), ()) ∧ Ab.Loc H0 [.grow RS 35 o (pureTo g i ++ pureRow g i j), .box b [u1, u2], .lent RGame [u1, u2] g, .lent RSS [u1] g.1, .lent RSS [u2] g.2] H) ⟨_, rfl, h⟩ ?_
    rintro j st H J2 hj ⟨o, rfl, h⟩ hJ2
    unfold f25.l2
    have n1 := pureTo_len g i
    have n2 := pureRow_len g i j
    have n3 : i * lw g ≤ 4 * 4 := Nat.mul_le_mul (by omega) l4
    refine Wi.fieldAddr0 (Wl.get (b := b) h rfl (Wl.at1H rfl (h.rd (cs := [u1]) (r := RSS) (x := g.1)) hik fun w hw => Wl.lenH hw ?_))
    rw [ha i hik]
    refine Wi.lssC (fun hlt2 => Wi.tru ?_) fun hge2 => Wi.fls ?_
    · have hjl : j < lw g := by omega
      refine W.for_rule g.1.length (fun k st H' => H' = H ∧ st = (.bool (goodA g i j k), .int .i64 (k : Nat), ())) ⟨rfl, rfl⟩ ?_
      rintro k st H' J3 hk ⟨rfl, rfl⟩ hJ3
      unfold f25.l3
      refine Wi.fieldAddr0 (Wl.get (b := b) h rfl (Wl.len (v := u1) (xs := g.1) h (Wi.lssC (fun hlt3 => Wi.tru ?_) fun hge3 => Wi.fls ?_)))
      · have hkl : k < g.1.length := by omega
        have est := goodA_step g i j k
        generalize goodA g i j k = c at est ⊢
        cases c with
        | false =>
          simp only [gw]
          refine Wi.add (by unfold I64; omega) (hJ3 _ _ hkl ⟨rfl, ?_⟩)
          rw [est]
          rfl
        | true =>
          simp only [gw]
          refine Wi.fieldAddr0 (Wl.get (b := b) h rfl (Wl.at1H rfl (h.rd (cs := [u1]) (r := RSS) (x := g.1)) hkl fun w hw => Wl.atIntH hw (i := j) (by rw [ha k hkl]; exact hjl) fun _ => Wi.fieldAddr0 (Wl.get (b := b) h rfl (Wl.at1H rfl (h.rd (cs := [u1]) (r := RSS) (x := g.1)) hik fun w2 hw2 => Wl.atIntH hw2 (i := j) (by rw [ha i hik]; exact hjl) fun _ => Wi.leq ?_))))
          rw [← mat_at hkl (by rw [ha k hkl]; exact hjl), ← mat_at hik (by rw [ha i hik]; exact hjl)]
          refine Wi.add (by unfold I64; omega) (hJ3 _ _ hkl ⟨rfl, ?_⟩)
          rw [est]
          rfl
      have hkl : k = g.1.length := by omega
      subst hkl
      refine W.for_rule (lw g) (fun k st H => H = H' ∧ st = (.bool (goodA g i j g.1.length && goodB g i j k), .int .i64 (k : Nat), ())) ⟨rfl, ?_⟩ ?_
      · simp [goodB]
        rfl
      rintro k st H J4 hk4 ⟨rfl, rfl⟩ hJ4
      unfold f25.l4
      refine Wi.fieldAddr0 (Wl.get (b := b) h rfl (Wl.at1H rfl (h.rd (cs := [u1]) (r := RSS) (x := g.1)) hik fun w hw => Wl.lenH hw ?_))
      rw [ha i hik]
      refine Wi.lssC (fun hlt4 => Wi.tru ?_) fun hge4 => Wi.fls ?_
      · have hkl : k < lw g := by omega
        have est : (goodA g i j g.1.length && goodB g i j (k + 1)) = ((goodA g i j g.1.length && goodB g i j k) && decide (mAt g.2 i k ≤ mAt g.2 i j)) := by rw [goodB_step, Bool.and_assoc]
        generalize (goodA g i j g.1.length && goodB g i j k) = c at est ⊢
        cases c with
        | false =>
          simp only [gw]
          refine Wi.add (by unfold I64; omega) (hJ4 _ _ hkl ⟨rfl, ?_⟩)
          rw [est]
          rfl
        | true =>
          simp only [gw]
          refine Wi.fieldAddr (Wl.get (b := b) (o := 1) h rfl (Wl.at1H rfl (h.rd (cs := [u2]) (r := RSS) (x := g.2)) hib fun w hw => Wl.atIntH hw (i := k) (by omega) fun _ => Wi.fieldAddr (Wl.get (b := b) (o := 1) h rfl (Wl.at1H rfl (h.rd (cs := [u2]) (r := RSS) (x := g.2)) hib fun w2 hw2 => Wl.atIntH hw2 (i := j) (by omega) fun _ => Wi.leq ?_))))
          rw [← mat_at hib (show k < g.2[i].length by omega), ← mat_at hib (show j < g.2[i].length by omega)]
          refine Wi.add (by unfold I64; omega) (hJ4 _ _ hkl ⟨rfl, ?_⟩)
          rw [est]
          rfl
      have hkl : k = lw g := by omega
      subst hkl
      have est := pureRow_step g i j
      have hpb : (goodA g i j g.1.length && goodB g i j (lw g)) = pureB g i j := rfl
      rw [hpb]
      cases hb : pureB g i j with
      | true =>
        rw [if_pos hb] at est
        refine Wi.tru (pure_push h (by omega) (by omega) (by simp; omega) fun H o' h => ?_)
        unfold f25.j1
        refine Wi.add (by unfold I64; omega) (hJ2 _ _ hjl ⟨o', rfl, ?_⟩)
        rw [est, ← List.append_assoc]
        exact h
      | false =>
        rw [if_neg (by rw [hb]; exact Bool.false_ne_true), List.append_nil] at est
        refine Wi.fls ?_
        unfold f25.j1
        refine Wi.add (by unfold I64; omega) (hJ2 _ _ hjl ⟨o, rfl, ?_⟩)
        rw [est]
        exact h
    · have hjl : j = lw g := by omega
      subst hjl
      rw [← pureTo_step] at h
      exact Wi.add (by unfold I64; omega) (hJ _ _ hik ⟨o, rfl, h⟩)
  · have hik : i = g.1.length := by omega
    subst hik
    have := hQ H o (by rw [hres]; exact (h.asData (i := 0) rfl).ret (i := 0) rfl)
    rw [hres] at this
    exact this

theorem fn29 {H0 : Heap} {Q : Post} {cs : List Value} {g : Game} (hr : Has RGame H0 cs g) (hw : wGame g ≤ 1048576) (hQ : ∀ H' b, H0.Le H' → (b = true ↔ IsGm g) → Q (.bool b) H') : Runs Tryz.prog 29 #[.agg cs.toArray] H0 Q := by
  obtain ⟨u1, u2, rfl, r1, r2⟩ := hasGame hr
  have h := (Loc.start H0).lent hr
  refine f29.enter ?_
  unfold f29.w
  exact Wl.box (cs := [u1, u2]) h fun H b h => Wl.getA (b := b) h rfl (Wi.call (fn57 (h.rd (cs := [u1, u2]) (x := g)) hw fun H t l ht => hQ _ _ (h.to l).le ht))

/-! ### Players exchanged -/

noncomputable def xpRes (g : Game) : Game × Int := open Classical in if IsGm g then ((turnL g.1.length (lw g) g.2, turnL g.1.length (lw g) g.1), 0) else (([], []), 1)

theorem turn_same {m : List (List Int)} {n : Nat} : turnM m n = turnL m.length n m := by
  unfold turnM turnL
  refine List.map_congr_left fun j _ => ?_
  apply List.ext_getElem
  · simp
  · intro i h1 h2
    have hi : i < m.length := by simpa using h1
    simp only [List.getElem_map, List.getElem_range]
    unfold mAt
    rw [getD_row hi]

theorem xp_nil {H0 H : Heap} (l : H0.Le H) : Fresh RGame H0 [.slice none 0 0, .slice none 0 0] ([], []) H := fresh_nil2 (r := RS) (s := RS) l

theorem fn30 {H0 : Heap} {Q : Post} {cs : List Value} {g : Game} (hr : Has RGame H0 cs g) (hw : wGame g ≤ 1048576) (hQ : ∀ H' u w, Fresh RGame H0 [u, w] (xpRes g).1 H' → Q (.tuple #[.agg #[u, w], .int .i64 (xpRes g).2]) H') : Runs Tryz.prog 30 #[.agg cs.toArray] H0 Q := by
  classical
  obtain ⟨u1, u2, rfl, r1, r2⟩ := hasGame hr
  have h := (((Loc.start H0).lent r2).lent r1).lent hr
  refine f30.enter ?_
  unfold f30.w
  refine Wl.box (cs := [u1, u2]) h fun H b h => Wl.new h fun H b2 h => Wl.getA (b := b) h rfl (Wi.call (fn28 (h.rd (cs := [u1, u2]) (x := g)) hw fun H t l ht => ?_))
  have h := h.to l
  cases t with
  | false =>
    simp only [gw]
    refine Wi.build (cells := [.slice none 0 0, .slice none 0 0]) rfl (Wl.putA (b := b2) (i := 0) h rfl rfl rfl fun H h => Wl.getA (b := b2) h rfl ?_)
    have e : xpRes g = (([], []), 1) := by unfold xpRes; rw [if_neg (fun q => Bool.noConfusion (ht.2 q))]
    have := hQ H (.slice none 0 0) (.slice none 0 0) (by rw [e]; exact xp_nil h.le)
    rw [e] at this
    exact this
  | true =>
  have hg := ht.1 rfl
  have k1 := hg.k1
  have k4 := hg.k4
  have l4 := hg.l4
  have bl := hg.bl
  simp only [gw]
  refine Wi.fieldAddr (Wl.get (b := b) (o := 1) h rfl (Wi.callQ (fn93 (n := lw g) (h.rd (cs := [u2]) (r := RSS) (x := g.2)) (by omega) (by omega) (by omega) (fun r hr => (hg.b r hr).1) fun H v f => ⟨f.le, ?_⟩)))
  rw [turn_same, bl] at f
  have h := h.add f
  refine Wi.fieldAddr0 (Wl.get (b := b) h rfl (Wi.callQ (fn93 (n := lw g) (h.rd (cs := [u1]) (r := RSS) (x := g.1)) (by omega) (by omega) (by omega) (fun r hr => (hg.a r hr).1) fun H w f => ⟨f.le, ?_⟩)))
  rw [turn_same] at f
  have h := h.add f
  have kv := (h.rd (cs := [v]) (r := RSS) (x := turnL g.1.length (lw g) g.2))
  have kw := (h.rd (cs := [w]) (r := RSS) (x := turnL g.1.length (lw g) g.1))
  have h : Ab.Loc H0 [.data RSS [w] (turnL g.1.length (lw g) g.1), .data RSS [v] (turnL g.1.length (lw g) g.2), .box b2 [.slice none 0 0, .slice none 0 0], .box b [u1, u2], .lent RGame [u1, u2] g, .lent RSS [u1] g.1, .lent RSS [u2] g.2] H := h
  refine Wi.build (cells := [v, w]) (by simp [fillA, kv.one, kw.one]) (Wl.putA (b := b2) (i := 2) h rfl rfl (by simp [kv.cell1, kw.cell1]) fun H h => Wl.getA (b := b2) h rfl ?_)
  have h := h.pair (i := 1) (j := 0) rfl rfl (by decide)
  have e : xpRes g = ((turnL g.1.length (lw g) g.2, turnL g.1.length (lw g) g.1), 0) := by unfold xpRes; rw [if_pos hg]
  have := hQ H v w (by rw [e]; exact h.ret (i := 1) rfl)
  rw [e] at this
  exact this

theorem fn40 {H0 : Heap} {Q : Post} {cs : List Value} {g : Game} (hr : Has RGame H0 cs g) (hw : wGame g ≤ 1048576) (hQ : ∀ H' u w, Fresh RGame H0 [u, w] (xpRes g).1 H' → Q (.tuple #[.agg #[u, w], .int .i64 (xpRes g).2]) H') : Runs Tryz.prog 40 #[.agg cs.toArray] H0 Q := by
  classical
  obtain ⟨u1, u2, rfl, r1, r2⟩ := hasGame hr
  have h := (((Loc.start H0).lent r2).lent r1).lent hr
  refine f40.enter ?_
  unfold f40.w
  refine Wl.box (cs := [u1, u2]) h fun H b h => Wl.new h fun H b2 h => Wl.getA (b := b) h rfl (Wi.call (fn57 (h.rd (cs := [u1, u2]) (x := g)) hw fun H t l ht => ?_))
  have h := h.to l
  cases t with
  | false =>
    simp only [gw]
    refine Wi.build (cells := [.slice none 0 0, .slice none 0 0]) rfl (Wl.putA (b := b2) (i := 0) h rfl rfl rfl fun H h => Wl.getA (b := b2) h rfl ?_)
    have e : xpRes g = (([], []), 1) := by unfold xpRes; rw [if_neg (fun q => Bool.noConfusion (ht.2 q))]
    have := hQ H (.slice none 0 0) (.slice none 0 0) (by rw [e]; exact xp_nil h.le)
    rw [e] at this
    exact this
  | true =>
  have hg := ht.1 rfl
  have k1 := hg.k1
  have k4 := hg.k4
  have l4 := hg.l4
  have bl := hg.bl
  simp only [gw]
  refine Wi.fieldAddr (Wl.get (b := b) (o := 1) h rfl (Wi.callQ (fn77 (l := lw g) (h.rd (cs := [u2]) (r := RSS) (x := g.2)) (by omega) (by omega) (fun r hr => (hg.b r hr).1) (by omega) fun H v f => ⟨f.le, ?_⟩)))
  rw [bl] at f
  have h := h.addG f
  refine Wi.fieldAddr0 (Wl.get (b := b) h rfl (Wi.callQ (fn77 (l := lw g) (h.rd (cs := [u1]) (r := RSS) (x := g.1)) (by omega) (by omega) (fun r hr => (hg.a r hr).1) (by omega) fun H w f => ⟨f.le, ?_⟩)))
  have h := ((h.addG f).asData (i := 0) rfl).asData (i := 1) rfl
  have h : Ab.Loc H0 [.data RSS [w] (turnL g.1.length (lw g) g.1), .data RSS [v] (turnL g.1.length (lw g) g.2), .box b2 [.slice none 0 0, .slice none 0 0], .box b [u1, u2], .lent RGame [u1, u2] g, .lent RSS [u1] g.1, .lent RSS [u2] g.2] H := h
  have kv := (h.rd (cs := [v]) (r := RSS) (x := turnL g.1.length (lw g) g.2))
  have kw := (h.rd (cs := [w]) (r := RSS) (x := turnL g.1.length (lw g) g.1))
  refine Wi.build (cells := [v, w]) (by simp [fillA, kv.one, kw.one]) (Wl.putA (b := b2) (i := 2) h rfl rfl (by simp [kv.cell1, kw.cell1]) fun H h => Wl.getA (b := b2) h rfl ?_)
  have h := h.pair (i := 1) (j := 0) rfl rfl (by decide)
  have e : xpRes g = ((turnL g.1.length (lw g) g.2, turnL g.1.length (lw g) g.1), 0) := by unfold xpRes; rw [if_pos hg]
  have := hQ H v w (by rw [e]; exact h.ret (i := 1) rfl)
  rw [e] at this
  exact this

end Go.Proofs.YtbcfknboheghkaaGreat
