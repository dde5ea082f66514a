/- The library's sort where all elements are alike. No condition. -/
import Derived.Test.YtdmgomeogedjgaaGreatFB
import Derived.Test.YtdmgomeogedjgaaGreatA5
import Derived.Test.YtdmgomeogedjgaaGreatCF
namespace Go.Proofs.YtdmgomeogedjgaaGreat
open Go.Ab

/- loop.example/g01343/impl.compareLists -/
def f24.w (Q : Post) (a_0 : Value) (b_1 : Value) (H : Heap) : Prop :=
  W.call Tryz.prog (.func (.func 54) #[] #[]) #[a_0, b_1, (.func (.func 55) #[] #[])] H fun v1 H =>
  Q v1 H
theorem f24.enter {Q : Post} {a_0 : Value} {b_1 : Value} {H : Heap} (h : f24.w Q a_0 b_1 H) : Runs Tryz.prog 24 #[a_0, b_1] H Q :=
  fn_enter (ann := []) (by kernel_rfl) Tryz.func24 rfl (by kernel_rfl) h (by kernel_rfl)

/- slices.CompareFunc[[]loop.example/g01343/impl.Frac,[]loop.example/g01343/impl.Frac,loop.example/g01343/impl.Frac,loop.example/g01343/impl.Frac] -/
def f54.l1 (Q : Post) (v1 : Value) (s1_0 : Value) (s2_1 : Value) (cmp_2 : Value) (I1 : St [13] → Heap → Prop) (x_13 : Value) (H : Heap) : Prop :=
  W.bin .lss x_13 v1 H fun v2 H =>
  W.cond v2 H
  (fun H => W.indexAddr 2 s1_0 x_13 H fun v3 H =>
   W.getN 2 v3 H fun v4 H =>
   W.new [(.int .i64 0), (.int .i64 0)] 67 H fun v5 H =>
   W.putN 2 v5 v4 H fun _ H =>
   W.len s2_1 H fun v6 H =>
   W.bin .geq x_13 v6 H fun v7 H =>
   W.cond v7 H
   (fun H => Q (.int .i64 1) H)
   (fun H => W.indexAddr 2 s2_1 x_13 H fun v8 H =>
    W.getN 2 v8 H fun v9 H =>
    W.new [(.int .i64 0), (.int .i64 0)] 67 H fun v10 H =>
    W.putN 2 v10 v9 H fun _ H =>
    W.getN 2 v5 H fun v11 H =>
    W.getN 2 v10 H fun v12 H =>
    W.call Tryz.prog cmp_2 #[v11, v12] H fun v13 H =>
    W.bin .neq v13 (.int .i64 0) H fun v14 H =>
    W.cond v14 H
    (fun H => Q v13 H)
    (fun H => W.bin .add x_13 (.int .i64 1) H fun v15 H =>
     I1 (v15, ()) H)))
  (fun H => W.len s1_0 H fun v16 H =>
   W.len s2_1 H fun v17 H =>
   W.bin .lss v16 v17 H fun v18 H =>
   W.cond v18 H
   (fun H => Q (.int .i64 (-1)) H)
   (fun H => Q (.int .i64 0) H))
def f54.w (Q : Post) (s1_0 : Value) (s2_1 : Value) (cmp_2 : Value) (H : Heap) : Prop :=
  W.len s1_0 H fun v1 H =>
  W.loop (S := St [13]) (fun I1 s H => f54.l1 Q v1 s1_0 s2_1 cmp_2 I1 s.1 H) ((.int .i64 0), ()) H
theorem f54.enter {Q : Post} {s1_0 : Value} {s2_1 : Value} {cmp_2 : Value} {H : Heap} (h : f54.w Q s1_0 s2_1 cmp_2 H) : Runs Tryz.prog 54 #[s1_0, s2_1, cmp_2] H Q :=
  fn_enter (ann := [(2, [13])]) (by kernel_rfl) Tryz.func54 rfl (by kernel_rfl) h (by kernel_rfl)

/- slices.SortFunc[[][]loop.example/g01343/impl.Frac,[]loop.example/g01343/impl.Frac] -/
def f23.w (Q : Post) (x_0 : Value) (cmp_1 : Value) (H : Heap) : Prop :=
  W.len x_0 H fun v1 H =>
  W.conv .u64 v1 H fun v2 H =>
  W.call Tryz.prog (.func (.func 53) #[] #[]) #[v2] H fun v3 H =>
  W.call Tryz.prog (.func (.func 52) #[] #[]) #[x_0, (.int .i64 0), v1, v3, cmp_1] H fun v4 H =>
  Q (.tuple #[]) H
theorem f23.enter {Q : Post} {x_0 : Value} {cmp_1 : Value} {H : Heap} (h : f23.w Q x_0 cmp_1 H) : Runs Tryz.prog 23 #[x_0, cmp_1] H Q :=
  fn_enter (ann := []) (by kernel_rfl) Tryz.func23 rfl (by kernel_rfl) h (by kernel_rfl)

/- slices.pdqsortCmpFunc[[]loop.example/g01343/impl.Frac] -/
def f52.j4 (Q : Post) (I1 : St [1, 2, 3, 10, 11] → Heap → Prop) (a_1'' : Value) (b_2'' : Value) (limit_3''' : Value) (wasBalanced_10' : Value) (wasPartitioned_11' : Value) (H : Heap) : Prop :=
  I1 (a_1'', b_2'', limit_3''', wasBalanced_10', wasPartitioned_11', ()) H
def f52.j5 (Q : Post) (limit_3'' : Value) (v41 : Value) (I1 : St [1, 2, 3, 10, 11] → Heap → Prop) (a_1''' : Value) (b_2''' : Value) (wasBalanced_10'' : Value) (H : Heap) : Prop :=
  f52.j4 Q I1 a_1''' b_2''' limit_3'' wasBalanced_10'' v41 H
def f52.j3 (Q : Post) (a_1' : Value) (cmp_4 : Value) (data_0 : Value) (pivot_13 : Value) (b_2' : Value) (limit_3'' : Value) (wasBalanced_10 : Value) (wasPartitioned_11 : Value) (v1 : Value) (I1 : St [1, 2, 3, 10, 11] → Heap → Prop) (H : Heap) : Prop :=
  W.bin .gtr a_1' (.int .i64 0) H fun v23 H =>
  W.guarded v23 true (fun H k => k cmp_4 H) H fun v24 H =>
  W.guarded v23 true (fun H k => k data_0 H) H fun v25 H =>
  W.guarded v23 true (fun H k => k a_1' H) H fun v26 H =>
  W.guarded v23 true (fun H k => W.bin .sub v26 (.int .i64 1) H k) H fun v27 H =>
  W.guarded v23 true (fun H k => W.indexAddr 1 v25 v27 H k) H fun v28 H =>
  W.guarded v23 true (fun H k => W.get v28 H k) H fun v29 H =>
  W.guarded v23 true (fun H k => k data_0 H) H fun v30 H =>
  W.guarded v23 true (fun H k => k pivot_13 H) H fun v31 H =>
  W.guarded v23 true (fun H k => W.indexAddr 1 v30 v31 H k) H fun v32 H =>
  W.guarded v23 true (fun H k => W.get v32 H k) H fun v33 H =>
  W.guarded v23 true (fun H k => W.callQ Tryz.prog v24 #[v29, v33] H k) H fun v34 H =>
  W.guarded v23 true (fun H k => W.bin .lss v34 (.int .i64 0) H k) H fun v35 H =>
  W.guarded v23 true (fun H k => W.un .not v35 H k) H fun v36 H =>
  W.pick v23 v36 (.bool false) H fun v37 H =>
  W.cond v37 H
  (fun H => W.call Tryz.prog (.func (.func 104) #[] #[]) #[data_0, a_1', b_2', pivot_13, cmp_4] H fun v38 H =>
   f52.j4 Q I1 v38 b_2' limit_3'' wasBalanced_10 wasPartitioned_11 H)
  (fun H => W.call Tryz.prog (.func (.func 105) #[] #[]) #[data_0, a_1', b_2', pivot_13, cmp_4] H fun v39 H =>
   W.extract 0 v39 H fun v40 H =>
   W.extract 1 v39 H fun v41 H =>
   W.bin .sub v40 a_1' H fun v42 H =>
   W.bin .sub b_2' v40 H fun v43 H =>
   W.bin .quo v1 (.int .i64 8) H fun v44 H =>
   W.bin .lss v42 v43 H fun v45 H =>
   W.cond v45 H
   (fun H => W.bin .geq v42 v44 H fun v46 H =>
    W.call Tryz.prog (.func (.func 52) #[] #[]) #[data_0, a_1', v40, limit_3'', cmp_4] H fun v47 H =>
    W.bin .add v40 (.int .i64 1) H fun v48 H =>
    f52.j5 Q limit_3'' v41 I1 v48 b_2' v46 H)
   (fun H => W.bin .geq v43 v44 H fun v49 H =>
    W.bin .add v40 (.int .i64 1) H fun v50 H =>
    W.call Tryz.prog (.func (.func 52) #[] #[]) #[data_0, v50, b_2', limit_3'', cmp_4] H fun v51 H =>
    f52.j5 Q limit_3'' v41 I1 a_1' v40 v49 H))
def f52.j2 (Q : Post) (wasBalanced_10 : Value) (wasPartitioned_11 : Value) (data_0 : Value) (a_1' : Value) (b_2' : Value) (cmp_4 : Value) (limit_3'' : Value) (v1 : Value) (I1 : St [1, 2, 3, 10, 11] → Heap → Prop) (pivot_13 : Value) (hint_14 : Value) (H : Heap) : Prop :=
  W.guarded wasBalanced_10 true (fun H k => k wasPartitioned_11 H) H fun v17 H =>
  W.pick wasBalanced_10 v17 (.bool false) H fun v18 H =>
  W.guarded v18 true (fun H k => k hint_14 H) H fun v19 H =>
  W.guarded v18 true (fun H k => W.bin .eql v19 (.int .i64 1) H k) H fun v20 H =>
  W.pick v18 v20 (.bool false) H fun v21 H =>
  W.cond v21 H
  (fun H => W.call Tryz.prog (.func (.func 103) #[] #[]) #[data_0, a_1', b_2', cmp_4] H fun v22 H =>
   W.cond v22 H
   (fun H => Q (.tuple #[]) H)
   (fun H => f52.j3 Q a_1' cmp_4 data_0 pivot_13 b_2' limit_3'' wasBalanced_10 wasPartitioned_11 v1 I1 H))
  (fun H => f52.j3 Q a_1' cmp_4 data_0 pivot_13 b_2' limit_3'' wasBalanced_10 wasPartitioned_11 v1 I1 H)
def f52.j1 (Q : Post) (data_0 : Value) (a_1' : Value) (b_2' : Value) (cmp_4 : Value) (wasBalanced_10 : Value) (wasPartitioned_11 : Value) (v1 : Value) (I1 : St [1, 2, 3, 10, 11] → Heap → Prop) (limit_3'' : Value) (H : Heap) : Prop :=
  W.call Tryz.prog (.func (.func 101) #[] #[]) #[data_0, a_1', b_2', cmp_4] H fun v9 H =>
  W.extract 0 v9 H fun v10 H =>
  W.extract 1 v9 H fun v11 H =>
  W.bin .eql v11 (.int .i64 2) H fun v12 H =>
  W.cond v12 H
  (fun H => W.call Tryz.prog (.func (.func 102) #[] #[]) #[data_0, a_1', b_2', cmp_4] H fun v13 H =>
   W.bin .sub b_2' (.int .i64 1) H fun v14 H =>
   W.bin .sub v10 a_1' H fun v15 H =>
   W.bin .sub v14 v15 H fun v16 H =>
   f52.j2 Q wasBalanced_10 wasPartitioned_11 data_0 a_1' b_2' cmp_4 limit_3'' v1 I1 v16 (.int .i64 1) H)
  (fun H => f52.j2 Q wasBalanced_10 wasPartitioned_11 data_0 a_1' b_2' cmp_4 limit_3'' v1 I1 v10 v11 H)
def f52.l1 (Q : Post) (data_0 : Value) (cmp_4 : Value) (I1 : St [1, 2, 3, 10, 11] → Heap → Prop) (a_1' : Value) (b_2' : Value) (limit_3' : Value) (wasBalanced_10 : Value) (wasPartitioned_11 : Value) (H : Heap) : Prop :=
  W.bin .sub b_2' a_1' H fun v1 H =>
  W.bin .leq v1 (.int .i64 12) H fun v2 H =>
  W.cond v2 H
  (fun H => W.call Tryz.prog (.func (.func 98) #[] #[]) #[data_0, a_1', b_2', cmp_4] H fun v3 H =>
   Q (.tuple #[]) H)
  (fun H => W.bin .eql limit_3' (.int .i64 0) H fun v4 H =>
   W.cond v4 H
   (fun H => W.call Tryz.prog (.func (.func 99) #[] #[]) #[data_0, a_1', b_2', cmp_4] H fun v5 H =>
    Q (.tuple #[]) H)
   (fun H => W.un .not wasBalanced_10 H fun v6 H =>
    W.cond v6 H
    (fun H => W.call Tryz.prog (.func (.func 100) #[] #[]) #[data_0, a_1', b_2', cmp_4] H fun v7 H =>
     W.bin .sub limit_3' (.int .i64 1) H fun v8 H =>
     f52.j1 Q data_0 a_1' b_2' cmp_4 wasBalanced_10 wasPartitioned_11 v1 I1 v8 H)
    (fun H => f52.j1 Q data_0 a_1' b_2' cmp_4 wasBalanced_10 wasPartitioned_11 v1 I1 limit_3' H)))
def f52.w (Q : Post) (data_0 : Value) (a_1 : Value) (b_2 : Value) (limit_3 : Value) (cmp_4 : Value) (H : Heap) : Prop :=
  W.loop (S := St [1, 2, 3, 10, 11]) (fun I1 s H => f52.l1 Q data_0 cmp_4 I1 s.1 s.2.1 s.2.2.1 s.2.2.2.1 s.2.2.2.2.1 H) (a_1, b_2, limit_3, (.bool true), (.bool true), ()) H
theorem f52.enter {Q : Post} {data_0 : Value} {a_1 : Value} {b_2 : Value} {limit_3 : Value} {cmp_4 : Value} {H : Heap} (h : f52.w Q data_0 a_1 b_2 limit_3 cmp_4 H) : Runs Tryz.prog 52 #[data_0, a_1, b_2, limit_3, cmp_4] H Q :=
  fn_enter (ann := [(2, [1, 2, 3, 10, 11])]) (by kernel_rfl) Tryz.func52 rfl (by kernel_rfl) h (by kernel_rfl)

/- slices.insertionSortCmpFunc[[]loop.example/g01343/impl.Frac] -/
def f98.l2 (Q : Post) (a_1 : Value) (cmp_3 : Value) (data_0 : Value) (i_8 : Value) (I1 : St [8] → Heap → Prop) (I2 : St [9] → Heap → Prop) (j_9 : Value) (H : Heap) : Prop :=
  W.bin .gtr j_9 a_1 H fun v3 H =>
  W.guarded v3 true (fun H k => k cmp_3 H) H fun v4 H =>
  W.guarded v3 true (fun H k => k data_0 H) H fun v5 H =>
  W.guarded v3 true (fun H k => k j_9 H) H fun v6 H =>
  W.guarded v3 true (fun H k => W.indexAddr 1 v5 v6 H k) H fun v7 H =>
  W.guarded v3 true (fun H k => W.get v7 H k) H fun v8 H =>
  W.guarded v3 true (fun H k => k data_0 H) H fun v9 H =>
  W.guarded v3 true (fun H k => k j_9 H) H fun v10 H =>
  W.guarded v3 true (fun H k => W.bin .sub v10 (.int .i64 1) H k) H fun v11 H =>
  W.guarded v3 true (fun H k => W.indexAddr 1 v9 v11 H k) H fun v12 H =>
  W.guarded v3 true (fun H k => W.get v12 H k) H fun v13 H =>
  W.guarded v3 true (fun H k => W.callQ Tryz.prog v4 #[v8, v13] H k) H fun v14 H =>
  W.guarded v3 true (fun H k => W.bin .lss v14 (.int .i64 0) H k) H fun v15 H =>
  W.pick v3 v15 (.bool false) H fun v16 H =>
  W.cond v16 H
  (fun H => W.bin .sub j_9 (.int .i64 1) H fun v17 H =>
   W.bin .sub j_9 (.int .i64 1) H fun v18 H =>
   W.indexAddr 1 data_0 v18 H fun v19 H =>
   W.get v19 H fun v20 H =>
   W.indexAddr 1 data_0 j_9 H fun v21 H =>
   W.get v21 H fun v22 H =>
   W.indexAddr 1 data_0 j_9 H fun v23 H =>
   W.put v23 v20 H fun _ H =>
   W.indexAddr 1 data_0 v17 H fun v24 H =>
   W.put v24 v22 H fun _ H =>
   W.bin .sub j_9 (.int .i64 1) H fun v25 H =>
   I2 (v25, ()) H)
  (fun H => W.bin .add i_8 (.int .i64 1) H fun v26 H =>
   I1 (v26, ()) H)
def f98.l1 (Q : Post) (b_2 : Value) (a_1 : Value) (cmp_3 : Value) (data_0 : Value) (I1 : St [8] → Heap → Prop) (i_8 : Value) (H : Heap) : Prop :=
  W.bin .lss i_8 b_2 H fun v2 H =>
  W.cond v2 H
  (fun H => W.loop (S := St [9]) (fun I2 s H => f98.l2 Q a_1 cmp_3 data_0 i_8 I1 I2 s.1 H) (i_8, ()) H)
  (fun H => Q (.tuple #[]) H)
def f98.w (Q : Post) (data_0 : Value) (a_1 : Value) (b_2 : Value) (cmp_3 : Value) (H : Heap) : Prop :=
  W.bin .add a_1 (.int .i64 1) H fun v1 H =>
  W.loop (S := St [8]) (fun I1 s H => f98.l1 Q b_2 a_1 cmp_3 data_0 I1 s.1 H) (v1, ()) H
theorem f98.enter {Q : Post} {data_0 : Value} {a_1 : Value} {b_2 : Value} {cmp_3 : Value} {H : Heap} (h : f98.w Q data_0 a_1 b_2 cmp_3 H) : Runs Tryz.prog 98 #[data_0, a_1, b_2, cmp_3] H Q :=
  fn_enter (ann := [(1, [8]), (4, [9])]) (by kernel_rfl) Tryz.func98 rfl (by kernel_rfl) h (by kernel_rfl)

/- slices.choosePivotCmpFunc[[]loop.example/g01343/impl.Frac] -/
def f101.j2 (Q : Post) (v2 : Value) (j_13' : Value) (H : Heap) : Prop :=
  W.get v2 H fun v18 H =>
  W.bin .eql v18 (.int .i64 0) H fun v19 H =>
  W.cond v19 H
  (fun H => Q (.tuple #[j_13', (.int .i64 1)]) H)
  (fun H => W.bin .eql v18 (.int .i64 12) H fun v20 H =>
   W.cond v20 H
   (fun H => Q (.tuple #[j_13', (.int .i64 2)]) H)
   (fun H => Q (.tuple #[j_13', (.int .i64 0)]) H))
def f101.j1 (Q : Post) (data_0 : Value) (v2 : Value) (cmp_3 : Value) (i_12 : Value) (j_13 : Value) (k_14 : Value) (H : Heap) : Prop :=
  W.call Tryz.prog (.func (.func 144) #[] #[]) #[data_0, i_12, j_13, k_14, v2, cmp_3] H fun v17 H =>
  f101.j2 Q v2 v17 H
def f101.w (Q : Post) (data_0 : Value) (a_1 : Value) (b_2 : Value) (cmp_3 : Value) (H : Heap) : Prop :=
  W.bin .sub b_2 a_1 H fun v1 H =>
  W.new [(.int .i64 0)] 3 H fun v2 H =>
  W.bin .quo v1 (.int .i64 4) H fun v3 H =>
  W.bin .mul v3 (.int .i64 1) H fun v4 H =>
  W.bin .add a_1 v4 H fun v5 H =>
  W.bin .quo v1 (.int .i64 4) H fun v6 H =>
  W.bin .mul v6 (.int .i64 2) H fun v7 H =>
  W.bin .add a_1 v7 H fun v8 H =>
  W.bin .quo v1 (.int .i64 4) H fun v9 H =>
  W.bin .mul v9 (.int .i64 3) H fun v10 H =>
  W.bin .add a_1 v10 H fun v11 H =>
  W.bin .geq v1 (.int .i64 8) H fun v12 H =>
  W.cond v12 H
  (fun H => W.bin .geq v1 (.int .i64 50) H fun v13 H =>
   W.cond v13 H
   (fun H => W.call Tryz.prog (.func (.func 143) #[] #[]) #[data_0, v5, v2, cmp_3] H fun v14 H =>
    W.call Tryz.prog (.func (.func 143) #[] #[]) #[data_0, v8, v2, cmp_3] H fun v15 H =>
    W.call Tryz.prog (.func (.func 143) #[] #[]) #[data_0, v11, v2, cmp_3] H fun v16 H =>
    f101.j1 Q data_0 v2 cmp_3 v14 v15 v16 H)
   (fun H => f101.j1 Q data_0 v2 cmp_3 v5 v8 v11 H))
  (fun H => f101.j2 Q v2 v8 H)
theorem f101.enter {Q : Post} {data_0 : Value} {a_1 : Value} {b_2 : Value} {cmp_3 : Value} {H : Heap} (h : f101.w Q data_0 a_1 b_2 cmp_3 H) : Runs Tryz.prog 101 #[data_0, a_1, b_2, cmp_3] H Q :=
  fn_enter (ann := []) (by kernel_rfl) Tryz.func101 rfl (by kernel_rfl) h (by kernel_rfl)

/- slices.medianCmpFunc[[]loop.example/g01343/impl.Frac] -/
def f144.w (Q : Post) (data_0 : Value) (a_1 : Value) (b_2 : Value) (c_3 : Value) (swaps_4 : Value) (cmp_5 : Value) (H : Heap) : Prop :=
  W.call Tryz.prog (.func (.func 149) #[] #[]) #[data_0, a_1, b_2, swaps_4, cmp_5] H fun v1 H =>
  W.extract 0 v1 H fun v2 H =>
  W.extract 1 v1 H fun v3 H =>
  W.call Tryz.prog (.func (.func 149) #[] #[]) #[data_0, v3, c_3, swaps_4, cmp_5] H fun v4 H =>
  W.extract 0 v4 H fun v5 H =>
  W.extract 1 v4 H fun v6 H =>
  W.call Tryz.prog (.func (.func 149) #[] #[]) #[data_0, v2, v5, swaps_4, cmp_5] H fun v7 H =>
  W.extract 0 v7 H fun v8 H =>
  W.extract 1 v7 H fun v9 H =>
  Q v9 H
theorem f144.enter {Q : Post} {data_0 : Value} {a_1 : Value} {b_2 : Value} {c_3 : Value} {swaps_4 : Value} {cmp_5 : Value} {H : Heap} (h : f144.w Q data_0 a_1 b_2 c_3 swaps_4 cmp_5 H) : Runs Tryz.prog 144 #[data_0, a_1, b_2, c_3, swaps_4, cmp_5] H Q :=
  fn_enter (ann := []) (by kernel_rfl) Tryz.func144 rfl (by kernel_rfl) h (by kernel_rfl)

/- slices.order2CmpFunc[[]loop.example/g01343/impl.Frac] -/
def f149.w (Q : Post) (data_0 : Value) (a_1 : Value) (b_2 : Value) (swaps_3 : Value) (cmp_4 : Value) (H : Heap) : Prop :=
  W.indexAddr 1 data_0 b_2 H fun v1 H =>
  W.get v1 H fun v2 H =>
  W.indexAddr 1 data_0 a_1 H fun v3 H =>
  W.get v3 H fun v4 H =>
  W.callQ Tryz.prog cmp_4 #[v2, v4] H fun v5 H =>
  W.bin .lss v5 (.int .i64 0) H fun v6 H =>
  W.cond v6 H
  (fun H => W.nilCheck swaps_3 H fun v7 H =>
   W.get v7 H fun v8 H =>
   W.bin .add v8 (.int .i64 1) H fun v9 H =>
   W.nilCheck swaps_3 H fun v10 H =>
   W.put v10 v9 H fun _ H =>
   Q (.tuple #[b_2, a_1]) H)
  (fun H => Q (.tuple #[a_1, b_2]) H)
theorem f149.enter {Q : Post} {data_0 : Value} {a_1 : Value} {b_2 : Value} {swaps_3 : Value} {cmp_4 : Value} {H : Heap} (h : f149.w Q data_0 a_1 b_2 swaps_3 cmp_4 H) : Runs Tryz.prog 149 #[data_0, a_1, b_2, swaps_3, cmp_4] H Q :=
  fn_enter (ann := []) (by kernel_rfl) Tryz.func149 rfl (by kernel_rfl) h (by kernel_rfl)

/- slices.partialInsertionSortCmpFunc[[]loop.example/g01343/impl.Frac] -/
def f103.j4 (Q : Post) (j_10 : Value) (i_9' : Value) (I1 : St [9, 10] → Heap → Prop) (H : Heap) : Prop :=
  W.bin .add j_10 (.int .i64 1) H fun v54 H =>
  I1 (i_9', v54, ()) H
def f103.j3 (Q : Post) (j_10 : Value) (i_9' : Value) (I1 : St [9, 10] → Heap → Prop) (H : Heap) : Prop :=
  f103.j4 Q j_10 i_9' I1 H
def f103.l4 (Q : Post) (b_2 : Value) (data_0 : Value) (cmp_3 : Value) (j_10 : Value) (i_9' : Value) (I1 : St [9, 10] → Heap → Prop) (I4 : St [12] → Heap → Prop) (j_12 : Value) (H : Heap) : Prop :=
  W.bin .lss j_12 b_2 H fun v45 H =>
  W.cond v45 H
  (fun H => W.indexAddr 1 data_0 j_12 H fun v46 H =>
   W.get v46 H fun v47 H =>
   W.bin .sub j_12 (.int .i64 1) H fun v48 H =>
   W.indexAddr 1 data_0 v48 H fun v49 H =>
   W.get v49 H fun v50 H =>
   W.callQ Tryz.prog cmp_3 #[v47, v50] H fun v51 H =>
   W.bin .lss v51 (.int .i64 0) H fun v52 H =>
   W.un .not v52 H fun v53 H =>
   W.cond v53 H
   (fun H => f103.j3 Q j_10 i_9' I1 H)
   (fun H => W.bin .sub j_12 (.int .i64 1) H fun v55 H =>
    W.bin .sub j_12 (.int .i64 1) H fun v56 H =>
    W.indexAddr 1 data_0 v56 H fun v57 H =>
    W.get v57 H fun v58 H =>
    W.indexAddr 1 data_0 j_12 H fun v59 H =>
    W.get v59 H fun v60 H =>
    W.indexAddr 1 data_0 j_12 H fun v61 H =>
    W.put v61 v58 H fun _ H =>
    W.indexAddr 1 data_0 v55 H fun v62 H =>
    W.put v62 v60 H fun _ H =>
    W.bin .add j_12 (.int .i64 1) H fun v63 H =>
    I4 (v63, ()) H))
  (fun H => f103.j3 Q j_10 i_9' I1 H)
def f103.j2 (Q : Post) (b_2 : Value) (i_9' : Value) (data_0 : Value) (cmp_3 : Value) (j_10 : Value) (I1 : St [9, 10] → Heap → Prop) (H : Heap) : Prop :=
  W.bin .sub b_2 i_9' H fun v42 H =>
  W.bin .geq v42 (.int .i64 2) H fun v43 H =>
  W.cond v43 H
  (fun H => W.bin .add i_9' (.int .i64 1) H fun v44 H =>
   W.loop (S := St [12]) (fun I4 s H => f103.l4 Q b_2 data_0 cmp_3 j_10 i_9' I1 I4 s.1 H) (v44, ()) H)
  (fun H => f103.j4 Q j_10 i_9' I1 H)
def f103.j1 (Q : Post) (b_2 : Value) (i_9' : Value) (data_0 : Value) (cmp_3 : Value) (j_10 : Value) (I1 : St [9, 10] → Heap → Prop) (H : Heap) : Prop :=
  f103.j2 Q b_2 i_9' data_0 cmp_3 j_10 I1 H
def f103.l3 (Q : Post) (data_0 : Value) (cmp_3 : Value) (b_2 : Value) (i_9' : Value) (j_10 : Value) (I1 : St [9, 10] → Heap → Prop) (I3 : St [11] → Heap → Prop) (j_11 : Value) (H : Heap) : Prop :=
  W.bin .geq j_11 (.int .i64 1) H fun v33 H =>
  W.cond v33 H
  (fun H => W.indexAddr 1 data_0 j_11 H fun v34 H =>
   W.get v34 H fun v35 H =>
   W.bin .sub j_11 (.int .i64 1) H fun v36 H =>
   W.indexAddr 1 data_0 v36 H fun v37 H =>
   W.get v37 H fun v38 H =>
   W.callQ Tryz.prog cmp_3 #[v35, v38] H fun v39 H =>
   W.bin .lss v39 (.int .i64 0) H fun v40 H =>
   W.un .not v40 H fun v41 H =>
   W.cond v41 H
   (fun H => f103.j1 Q b_2 i_9' data_0 cmp_3 j_10 I1 H)
   (fun H => W.bin .sub j_11 (.int .i64 1) H fun v64 H =>
    W.bin .sub j_11 (.int .i64 1) H fun v65 H =>
    W.indexAddr 1 data_0 v65 H fun v66 H =>
    W.get v66 H fun v67 H =>
    W.indexAddr 1 data_0 j_11 H fun v68 H =>
    W.get v68 H fun v69 H =>
    W.indexAddr 1 data_0 j_11 H fun v70 H =>
    W.put v70 v67 H fun _ H =>
    W.indexAddr 1 data_0 v64 H fun v71 H =>
    W.put v71 v69 H fun _ H =>
    W.bin .sub j_11 (.int .i64 1) H fun v72 H =>
    I3 (v72, ()) H))
  (fun H => f103.j1 Q b_2 i_9' data_0 cmp_3 j_10 I1 H)
def f103.l2 (Q : Post) (b_2 : Value) (cmp_3 : Value) (data_0 : Value) (a_1 : Value) (j_10 : Value) (I1 : St [9, 10] → Heap → Prop) (I2 : St [9] → Heap → Prop) (i_9' : Value) (H : Heap) : Prop :=
  W.bin .lss i_9' b_2 H fun v3 H =>
  W.guarded v3 true (fun H k => k cmp_3 H) H fun v4 H =>
  W.guarded v3 true (fun H k => k data_0 H) H fun v5 H =>
  W.guarded v3 true (fun H k => k i_9' H) H fun v6 H =>
  W.guarded v3 true (fun H k => W.indexAddr 1 v5 v6 H k) H fun v7 H =>
  W.guarded v3 true (fun H k => W.get v7 H k) H fun v8 H =>
  W.guarded v3 true (fun H k => k data_0 H) H fun v9 H =>
  W.guarded v3 true (fun H k => k i_9' H) H fun v10 H =>
  W.guarded v3 true (fun H k => W.bin .sub v10 (.int .i64 1) H k) H fun v11 H =>
  W.guarded v3 true (fun H k => W.indexAddr 1 v9 v11 H k) H fun v12 H =>
  W.guarded v3 true (fun H k => W.get v12 H k) H fun v13 H =>
  W.guarded v3 true (fun H k => W.callQ Tryz.prog v4 #[v8, v13] H k) H fun v14 H =>
  W.guarded v3 true (fun H k => W.bin .lss v14 (.int .i64 0) H k) H fun v15 H =>
  W.guarded v3 true (fun H k => W.un .not v15 H k) H fun v16 H =>
  W.pick v3 v16 (.bool false) H fun v17 H =>
  W.cond v17 H
  (fun H => W.bin .add i_9' (.int .i64 1) H fun v18 H =>
   I2 (v18, ()) H)
  (fun H => W.bin .eql i_9' b_2 H fun v19 H =>
   W.cond v19 H
   (fun H => Q (.bool true) H)
   (fun H => W.bin .sub b_2 a_1 H fun v20 H =>
    W.bin .lss v20 (.int .i64 50) H fun v21 H =>
    W.cond v21 H
    (fun H => Q (.bool false) H)
    (fun H => W.bin .sub i_9' (.int .i64 1) H fun v22 H =>
     W.bin .sub i_9' (.int .i64 1) H fun v23 H =>
     W.indexAddr 1 data_0 v23 H fun v24 H =>
     W.get v24 H fun v25 H =>
     W.indexAddr 1 data_0 i_9' H fun v26 H =>
     W.get v26 H fun v27 H =>
     W.indexAddr 1 data_0 i_9' H fun v28 H =>
     W.put v28 v25 H fun _ H =>
     W.indexAddr 1 data_0 v22 H fun v29 H =>
     W.put v29 v27 H fun _ H =>
     W.bin .sub i_9' a_1 H fun v30 H =>
     W.bin .geq v30 (.int .i64 2) H fun v31 H =>
     W.cond v31 H
     (fun H => W.bin .sub i_9' (.int .i64 1) H fun v32 H =>
      W.loop (S := St [11]) (fun I3 s H => f103.l3 Q data_0 cmp_3 b_2 i_9' j_10 I1 I3 s.1 H) (v32, ()) H)
     (fun H => f103.j2 Q b_2 i_9' data_0 cmp_3 j_10 I1 H))))
def f103.l1 (Q : Post) (b_2 : Value) (cmp_3 : Value) (data_0 : Value) (a_1 : Value) (I1 : St [9, 10] → Heap → Prop) (i_9 : Value) (j_10 : Value) (H : Heap) : Prop :=
  W.bin .lss j_10 (.int .i64 5) H fun v2 H =>
  W.cond v2 H
  (fun H => W.loop (S := St [9]) (fun I2 s H => f103.l2 Q b_2 cmp_3 data_0 a_1 j_10 I1 I2 s.1 H) (i_9, ()) H)
  (fun H => Q (.bool false) H)
def f103.w (Q : Post) (data_0 : Value) (a_1 : Value) (b_2 : Value) (cmp_3 : Value) (H : Heap) : Prop :=
  W.bin .add a_1 (.int .i64 1) H fun v1 H =>
  W.loop (S := St [9, 10]) (fun I1 s H => f103.l1 Q b_2 cmp_3 data_0 a_1 I1 s.1 s.2.1 H) (v1, (.int .i64 0), ()) H
theorem f103.enter {Q : Post} {data_0 : Value} {a_1 : Value} {b_2 : Value} {cmp_3 : Value} {H : Heap} (h : f103.w Q data_0 a_1 b_2 cmp_3 H) : Runs Tryz.prog 103 #[data_0, a_1, b_2, cmp_3] H Q :=
  fn_enter (ann := [(3, [9, 10]), (5, [9]), (14, [11]), (20, [12])]) (by kernel_rfl) Tryz.func103 rfl (by kernel_rfl) h (by kernel_rfl)

/- math/bits.Len -/
def f53.w (Q : Post) (x_0 : Value) (H : Heap) : Prop :=
  W.cond (.bool false) H
  (fun H => W.conv .u32 x_0 H fun v1 H =>
   W.call Tryz.prog (.func (.func 106) #[] #[]) #[v1] H fun v2 H =>
   Q v2 H)
  (fun H => W.call Tryz.prog (.func (.func 107) #[] #[]) #[x_0] H fun v3 H =>
   Q v3 H)
theorem f53.enter {Q : Post} {x_0 : Value} {H : Heap} (h : f53.w Q x_0 H) : Runs Tryz.prog 53 #[x_0] H Q :=
  fn_enter (ann := []) (by kernel_rfl) Tryz.func53 rfl (by kernel_rfl) h (by kernel_rfl)

/- math/bits.Len64 -/
def f107.j3 (Q : Post) (x_0''' : Value) (n_2'' : Value) (H : Heap) : Prop :=
  W.conv .u8 x_0''' H fun v9 H =>
  W.indexStr (.string { data := (List.toArray (List.append (List.append [0, 1, 2, 2, 3, 3, 3, 3, 4, 4, 4, 4, 4, 4, 4, 4, 5, 5, 5, 5, 5, 5, 5, 5, 5, 5, 5, 5, 5, 5, 5, 5, 6, 6, 6, 6, 6, 6, 6, 6, 6, 6, 6, 6, 6, 6, 6, 6, 6, 6, 6, 6, 6, 6, 6, 6, 6, 6, 6, 6, 6, 6, 6, 6] [7, 7, 7, 7, 7, 7, 7, 7, 7, 7, 7, 7, 7, 7, 7, 7, 7, 7, 7, 7, 7, 7, 7, 7, 7, 7, 7, 7, 7, 7, 7, 7, 7, 7, 7, 7, 7, 7, 7, 7, 7, 7, 7, 7, 7, 7, 7, 7, 7, 7, 7, 7, 7, 7, 7, 7, 7, 7, 7, 7, 7, 7, 7, 7]) (List.append [8, 8, 8, 8, 8, 8, 8, 8, 8, 8, 8, 8, 8, 8, 8, 8, 8, 8, 8, 8, 8, 8, 8, 8, 8, 8, 8, 8, 8, 8, 8, 8, 8, 8, 8, 8, 8, 8, 8, 8, 8, 8, 8, 8, 8, 8, 8, 8, 8, 8, 8, 8, 8, 8, 8, 8, 8, 8, 8, 8, 8, 8, 8, 8] [8, 8, 8, 8, 8, 8, 8, 8, 8, 8, 8, 8, 8, 8, 8, 8, 8, 8, 8, 8, 8, 8, 8, 8, 8, 8, 8, 8, 8, 8, 8, 8, 8, 8, 8, 8, 8, 8, 8, 8, 8, 8, 8, 8, 8, 8, 8, 8, 8, 8, 8, 8, 8, 8, 8, 8, 8, 8, 8, 8, 8, 8, 8, 8]))) }) v9 H fun v10 H =>
  W.conv .i64 v10 H fun v11 H =>
  W.bin .add n_2'' v11 H fun v12 H =>
  Q v12 H
def f107.j2 (Q : Post) (x_0'' : Value) (n_2' : Value) (H : Heap) : Prop :=
  W.bin .geq x_0'' (.int .u64 256) H fun v6 H =>
  W.cond v6 H
  (fun H => W.bin .shr x_0'' (.int .u64 8) H fun v7 H =>
   W.bin .add n_2' (.int .i64 8) H fun v8 H =>
   f107.j3 Q v7 v8 H)
  (fun H => f107.j3 Q x_0'' n_2' H)
def f107.j1 (Q : Post) (x_0' : Value) (n_2 : Value) (H : Heap) : Prop :=
  W.bin .geq x_0' (.int .u64 65536) H fun v3 H =>
  W.cond v3 H
  (fun H => W.bin .shr x_0' (.int .u64 16) H fun v4 H =>
   W.bin .add n_2 (.int .i64 16) H fun v5 H =>
   f107.j2 Q v4 v5 H)
  (fun H => f107.j2 Q x_0' n_2 H)
def f107.w (Q : Post) (x_0 : Value) (H : Heap) : Prop :=
  W.bin .geq x_0 (.int .u64 4294967296) H fun v1 H =>
  W.cond v1 H
  (fun H => W.bin .shr x_0 (.int .u64 32) H fun v2 H =>
   f107.j1 Q v2 (.int .i64 32) H)
  (fun H => f107.j1 Q x_0 (.int .i64 0) H)
theorem f107.enter {Q : Post} {x_0 : Value} {H : Heap} (h : f107.w Q x_0 H) : Runs Tryz.prog 107 #[x_0] H Q :=
  fn_enter (ann := []) (by kernel_rfl) Tryz.func107 rfl (by kernel_rfl) h (by kernel_rfl)


abbrev RFSS' : Rd (List (List Frac)) := Rd.slice RFS

section
variable {H0 : Heap} {Q : Post} {vd : Value} {Z : List Frac} {m : Nat}

end

end Go.Proofs.YtdmgomeogedjgaaGreat
