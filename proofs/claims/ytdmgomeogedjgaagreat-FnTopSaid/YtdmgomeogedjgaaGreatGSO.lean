/- The library's sort where all elements are alike. No condition. -/
import Derived.Test.YtdmgomeogedjgaaGreatFB
import Derived.Test.YtdmgomeogedjgaaGreatA5
import Derived.Test.YtdmgomeogedjgaaGreatCF
import Derived.Test.YtdmgomeogedjgaaGreatZabSrc
import Derived.Test.YtdmgomeogedjgaaGreatZabClear
namespace Go.Proofs.YtdmgomeogedjgaaGreat
open Go.Ab

/- loop.example/g01343/impl.compareLists -/
def f24.w (Q : Post) (a_0 : Value) (b_1 : Value) (H : Heap) : Prop :=
  W.call Tryz.prog (.func (.func 54) #[] #[]) #[a_0, b_1, (.func (.func 55) #[] #[])] H fun v1 H =>
  Q v1 H
theorem f24.enter {Q : Post} {a_0 : Value} {b_1 : Value} {H : Heap} (h : f24.w Q a_0 b_1 H) : Runs Tryz.prog 24 #[a_0, b_1] H Q :=
  fn_enter (ann := []) (by kernel_rfl) Tryz.func24 rfl (by kernel_rfl) h (by kernel_rfl)

/- slices.CompareFunc[[]loop.example/g01343/impl.Frac,[]loop.example/g01343/impl.Frac,loop.example/g01343/impl.Frac,loop.example/g01343/impl.Frac] -/
def f54.l1 (Q : Post) (v1 : Value) (s1_0 : Value) (s2_1 : Value) (cmp_2 : Value) (I1 : St [13] → Heap → Prop) (x_13 : Value) (H : Heap) : Prop :=
  W.bin .lss x_13 v1 H fun v2 H =>
  W.cond v2 H
  (fun H => W.indexAddr 2 s1_0 x_13 H fun v3 H =>
   W.getN 2 v3 H fun v4 H =>
   W.new [(.int .i64 0), (.int .i64 0)] 67 H fun v5 H =>
   W.putN 2 v5 v4 H fun _ H =>
   W.len s2_1 H fun v6 H =>
   W.bin .geq x_13 v6 H fun v7 H =>
   W.cond v7 H
   (fun H => Q (.int .i64 1) H)
   (fun H => W.indexAddr 2 s2_1 x_13 H fun v8 H =>
    W.getN 2 v8 H fun v9 H =>
    W.new [(.int .i64 0), (.int .i64 0)] 67 H fun v10 H =>
    W.putN 2 v10 v9 H fun _ H =>
    W.getN 2 v5 H fun v11 H =>
    W.getN 2 v10 H fun v12 H =>
    W.call Tryz.prog cmp_2 #[v11, v12] H fun v13 H =>
    W.bin .neq v13 (.int .i64 0) H fun v14 H =>
    W.cond v14 H
    (fun H => Q v13 H)
    (fun H => W.bin .add x_13 (.int .i64 1) H fun v15 H =>
     I1 (v15, ()) H)))
  (fun H => W.len s1_0 H fun v16 H =>
   W.len s2_1 H fun v17 H =>
   W.bin .lss v16 v17 H fun v18 H =>
   W.cond v18 H
   (fun H => Q (.int .i64 (-1)) H)
   (fun H => Q (.int .i64 0) H))
def f54.w (Q : Post) (s1_0 : Value) (s2_1 : Value) (cmp_2 : Value) (H : Heap) : Prop :=
  W.len s1_0 H fun v1 H =>
  W.loop (S := St [13]) (fun I1 s H => f54.l1 Q v1 s1_0 s2_1 cmp_2 I1 s.1 H) ((.int .i64 0), ()) H
theorem f54.enter {Q : Post} {s1_0 : Value} {s2_1 : Value} {cmp_2 : Value} {H : Heap} (h : f54.w Q s1_0 s2_1 cmp_2 H) : Runs Tryz.prog 54 #[s1_0, s2_1, cmp_2] H Q :=
  fn_enter (ann := [(2, [13])]) (by kernel_rfl) Tryz.func54 rfl (by kernel_rfl) h (by kernel_rfl)

/- slices.SortFunc[[][]loop.example/g01343/impl.Frac,[]loop.example/g01343/impl.Frac] -/
def f23.w (Q : Post) (x_0 : Value) (cmp_1 : Value) (H : Heap) : Prop :=
  W.len x_0 H fun v1 H =>
  W.conv .u64 v1 H fun v2 H =>
  W.call Tryz.prog (.func (.func 53) #[] #[]) #[v2] H fun v3 H =>
  W.call Tryz.prog (.func (.func 52) #[] #[]) #[x_0, (.int .i64 0), v1, v3, cmp_1] H fun v4 H =>
  Q (.tuple #[]) H
theorem f23.enter {Q : Post} {x_0 : Value} {cmp_1 : Value} {H : Heap} (h : f23.w Q x_0 cmp_1 H) : Runs Tryz.prog 23 #[x_0, cmp_1] H Q :=
  fn_enter (ann := []) (by kernel_rfl) Tryz.func23 rfl (by kernel_rfl) h (by kernel_rfl)

/- slices.pdqsortCmpFunc[[]loop.example/g01343/impl.Frac] -/
def f52.j4 (Q : Post) (I1 : St [1, 2, 3, 10, 11] → Heap → Prop) (a_1'' : Value) (b_2'' : Value) (limit_3''' : Value) (wasBalanced_10' : Value) (wasPartitioned_11' : Value) (H : Heap) : Prop :=
  I1 (a_1'', b_2'', limit_3''', wasBalanced_10', wasPartitioned_11', ()) H
def f52.j5 (Q : Post) (limit_3'' : Value) (v41 : Value) (I1 : St [1, 2, 3, 10, 11] → Heap → Prop) (a_1''' : Value) (b_2''' : Value) (wasBalanced_10'' : Value) (H : Heap) : Prop :=
  f52.j4 Q I1 a_1''' b_2''' limit_3'' wasBalanced_10'' v41 H
def f52.j3 (Q : Post) (a_1' : Value) (cmp_4 : Value) (data_0 : Value) (pivot_13 : Value) (b_2' : Value) (limit_3'' : Value) (wasBalanced_10 : Value) (wasPartitioned_11 : Value) (v1 : Value) (I1 : St [1, 2, 3, 10, 11] → Heap → Prop) (H : Heap) : Prop :=
  W.bin .gtr a_1' (.int .i64 0) H fun v23 H =>
  W.guarded v23 true (fun H k => k cmp_4 H) H fun v24 H =>
  W.guarded v23 true (fun H k => k data_0 H) H fun v25 H =>
  W.guarded v23 true (fun H k => k a_1' H) H fun v26 H =>
  W.guarded v23 true (fun H k => W.bin .sub v26 (.int .i64 1) H k) H fun v27 H =>
  W.guarded v23 true (fun H k => W.indexAddr 1 v25 v27 H k) H fun v28 H =>
  W.guarded v23 true (fun H k => W.get v28 H k) H fun v29 H =>
  W.guarded v23 true (fun H k => k data_0 H) H fun v30 H =>
  W.guarded v23 true (fun H k => k pivot_13 H) H fun v31 H =>
  W.guarded v23 true (fun H k => W.indexAddr 1 v30 v31 H k) H fun v32 H =>
  W.guarded v23 true (fun H k => W.get v32 H k) H fun v33 H =>
  W.guarded v23 true (fun H k => W.callQ Tryz.prog v24 #[v29, v33] H k) H fun v34 H =>
  W.guarded v23 true (fun H k => W.bin .lss v34 (.int .i64 0) H k) H fun v35 H =>
  W.guarded v23 true (fun H k => W.un .not v35 H k) H fun v36 H =>
  W.pick v23 v36 (.bool false) H fun v37 H =>
  W.cond v37 H
  (fun H => W.call Tryz.prog (.func (.func 104) #[] #[]) #[data_0, a_1', b_2', pivot_13, cmp_4] H fun v38 H =>
   f52.j4 Q I1 v38 b_2' limit_3'' wasBalanced_10 wasPartitioned_11 H)
  (fun H => W.call Tryz.prog (.func (.func 105) #[] #[]) #[data_0, a_1', b_2', pivot_13, cmp_4] H fun v39 H =>
   W.extract 0 v39 H fun v40 H =>
   W.extract 1 v39 H fun v41 H =>
   W.bin .sub v40 a_1' H fun v42 H =>
   W.bin .sub b_2' v40 H fun v43 H =>
   W.bin .quo v1 (.int .i64 8) H fun v44 H =>
   W.bin .lss v42 v43 H fun v45 H =>
   W.cond v45 H
   (fun H => W.bin .geq v42 v44 H fun v46 H =>
    W.call Tryz.prog (.func (.func 52) #[] #[]) #[data_0, a_1', v40, limit_3'', cmp_4] H fun v47 H =>
    W.bin .add v40 (.int .i64 1) H fun v48 H =>
    f52.j5 Q limit_3'' v41 I1 v48 b_2' v46 H)
   (fun H => W.bin .geq v43 v44 H fun v49 H =>
    W.bin .add v40 (.int .i64 1) H fun v50 H =>
    W.call Tryz.prog (.func (.func 52) #[] #[]) #[data_0, v50, b_2', limit_3'', cmp_4] H fun v51 H =>
    f52.j5 Q limit_3'' v41 I1 a_1' v40 v49 H))
def f52.j2 (Q : Post) (wasBalanced_10 : Value) (wasPartitioned_11 : Value) (data_0 : Value) (a_1' : Value) (b_2' : Value) (cmp_4 : Value) (limit_3'' : Value) (v1 : Value) (I1 : St [1, 2, 3, 10, 11] → Heap → Prop) (pivot_13 : Value) (hint_14 : Value) (H : Heap) : Prop :=
  W.guarded wasBalanced_10 true (fun H k => k wasPartitioned_11 H) H fun v17 H =>
  W.pick wasBalanced_10 v17 (.bool false) H fun v18 H =>
  W.guarded v18 true (fun H k => k hint_14 H) H fun v19 H =>
  W.guarded v18 true (fun H k => W.bin .eql v19 (.int .i64 1) H k) H fun v20 H =>
  W.pick v18 v20 (.bool false) H fun v21 H =>
  W.cond v21 H
  (fun H => W.call Tryz.prog (.func (.func 103) #[] #[]) #[data_0, a_1', b_2', cmp_4] H fun v22 H =>
   W.cond v22 H
   (fun H => Q (.tuple #[]) H)
   (fun H => f52.j3 Q a_1' cmp_4 data_0 pivot_13 b_2' limit_3'' wasBalanced_10 wasPartitioned_11 v1 I1 H))
  (fun H => f52.j3 Q a_1' cmp_4 data_0 pivot_13 b_2' limit_3'' wasBalanced_10 wasPartitioned_11 v1 I1 H)
def f52.j1 (Q : Post) (data_0 : Value) (a_1' : Value) (b_2' : Value) (cmp_4 : Value) (wasBalanced_10 : Value) (wasPartitioned_11 : Value) (v1 : Value) (I1 : St [1, 2, 3, 10, 11] → Heap → Prop) (limit_3'' : Value) (H : Heap) : Prop :=
  W.call Tryz.prog (.func (.func 101) #[] #[]) #[data_0, a_1', b_2', cmp_4] H fun v9 H =>
  W.extract 0 v9 H fun v10 H =>
  W.extract 1 v9 H fun v11 H =>
  W.bin .eql v11 (.int .i64 2) H fun v12 H =>
  W.cond v12 H
  (fun H => W.call Tryz.prog (.func (.func 102) #[] #[]) #[data_0, a_1', b_2', cmp_4] H fun v13 H =>
   W.bin .sub b_2' (.int .i64 1) H fun v14 H =>
   W.bin .sub v10 a_1' H fun v15 H =>
   W.bin .sub v14 v15 H fun v16 H =>
   f52.j2 Q wasBalanced_10 wasPartitioned_11 data_0 a_1' b_2' cmp_4 limit_3'' v1 I1 v16 (.int .i64 1) H)
  (fun H => f52.j2 Q wasBalanced_10 wasPartitioned_11 data_0 a_1' b_2' cmp_4 limit_3'' v1 I1 v10 v11 H)
def f52.l1 (Q : Post) (data_0 : Value) (cmp_4 : Value) (I1 : St [1, 2, 3, 10, 11] → Heap → Prop) (a_1' : Value) (b_2' : Value) (limit_3' : Value) (wasBalanced_10 : Value) (wasPartitioned_11 : Value) (H : Heap) : Prop :=
  W.bin .sub b_2' a_1' H fun v1 H =>
  W.bin .leq v1 (.int .i64 12) H fun v2 H =>
  W.cond v2 H
  (fun H => W.call Tryz.prog (.func (.func 98) #[] #[]) #[data_0, a_1', b_2', cmp_4] H fun v3 H =>
   Q (.tuple #[]) H)
  (fun H => W.bin .eql limit_3' (.int .i64 0) H fun v4 H =>
   W.cond v4 H
   (fun H => W.call Tryz.prog (.func (.func 99) #[] #[]) #[data_0, a_1', b_2', cmp_4] H fun v5 H =>
    Q (.tuple #[]) H)
   (fun H => W.un .not wasBalanced_10 H fun v6 H =>
    W.cond v6 H
    (fun H => W.call Tryz.prog (.func (.func 100) #[] #[]) #[data_0, a_1', b_2', cmp_4] H fun v7 H =>
     W.bin .sub limit_3' (.int .i64 1) H fun v8 H =>
     f52.j1 Q data_0 a_1' b_2' cmp_4 wasBalanced_10 wasPartitioned_11 v1 I1 v8 H)
    (fun H => f52.j1 Q data_0 a_1' b_2' cmp_4 wasBalanced_10 wasPartitioned_11 v1 I1 limit_3' H)))
def f52.w (Q : Post) (data_0 : Value) (a_1 : Value) (b_2 : Value) (limit_3 : Value) (cmp_4 : Value) (H : Heap) : Prop :=
  W.loop (S := St [1, 2, 3, 10, 11]) (fun I1 s H => f52.l1 Q data_0 cmp_4 I1 s.1 s.2.1 s.2.2.1 s.2.2.2.1 s.2.2.2.2.1 H) (a_1, b_2, limit_3, (.bool true), (.bool true), ()) H
theorem f52.enter {Q : Post} {data_0 : Value} {a_1 : Value} {b_2 : Value} {limit_3 : Value} {cmp_4 : Value} {H : Heap} (h : f52.w Q data_0 a_1 b_2 limit_3 cmp_4 H) : Runs Tryz.prog 52 #[data_0, a_1, b_2, limit_3, cmp_4] H Q :=
  fn_enter (ann := [(2, [1, 2, 3, 10, 11])]) (by kernel_rfl) Tryz.func52 rfl (by kernel_rfl) h (by kernel_rfl)

/- slices.insertionSortCmpFunc[[]loop.example/g01343/impl.Frac] -/
def f98.l2 (Q : Post) (a_1 : Value) (cmp_3 : Value) (data_0 : Value) (i_8 : Value) (I1 : St [8] → Heap → Prop) (I2 : St [9] → Heap → Prop) (j_9 : Value) (H : Heap) : Prop :=
  W.bin .gtr j_9 a_1 H fun v3 H =>
  W.guarded v3 true (fun H k => k cmp_3 H) H fun v4 H =>
  W.guarded v3 true (fun H k => k data_0 H) H fun v5 H =>
  W.guarded v3 true (fun H k => k j_9 H) H fun v6 H =>
  W.guarded v3 true (fun H k => W.indexAddr 1 v5 v6 H k) H fun v7 H =>
  W.guarded v3 true (fun H k => W.get v7 H k) H fun v8 H =>
  W.guarded v3 true (fun H k => k data_0 H) H fun v9 H =>
  W.guarded v3 true (fun H k => k j_9 H) H fun v10 H =>
  W.guarded v3 true (fun H k => W.bin .sub v10 (.int .i64 1) H k) H fun v11 H =>
  W.guarded v3 true (fun H k => W.indexAddr 1 v9 v11 H k) H fun v12 H =>
  W.guarded v3 true (fun H k => W.get v12 H k) H fun v13 H =>
  W.guarded v3 true (fun H k => W.callQ Tryz.prog v4 #[v8, v13] H k) H fun v14 H =>
  W.guarded v3 true (fun H k => W.bin .lss v14 (.int .i64 0) H k) H fun v15 H =>
  W.pick v3 v15 (.bool false) H fun v16 H =>
  W.cond v16 H
  (fun H => W.bin .sub j_9 (.int .i64 1) H fun v17 H =>
   W.bin .sub j_9 (.int .i64 1) H fun v18 H =>
   W.indexAddr 1 data_0 v18 H fun v19 H =>
   W.get v19 H fun v20 H =>
   W.indexAddr 1 data_0 j_9 H fun v21 H =>
   W.get v21 H fun v22 H =>
   W.indexAddr 1 data_0 j_9 H fun v23 H =>
   W.put v23 v20 H fun _ H =>
   W.indexAddr 1 data_0 v17 H fun v24 H =>
   W.put v24 v22 H fun _ H =>
   W.bin .sub j_9 (.int .i64 1) H fun v25 H =>
   I2 (v25, ()) H)
  (fun H => W.bin .add i_8 (.int .i64 1) H fun v26 H =>
   I1 (v26, ()) H)
def f98.l1 (Q : Post) (b_2 : Value) (a_1 : Value) (cmp_3 : Value) (data_0 : Value) (I1 : St [8] → Heap → Prop) (i_8 : Value) (H : Heap) : Prop :=
  W.bin .lss i_8 b_2 H fun v2 H =>
  W.cond v2 H
  (fun H => W.loop (S := St [9]) (fun I2 s H => f98.l2 Q a_1 cmp_3 data_0 i_8 I1 I2 s.1 H) (i_8, ()) H)
  (fun H => Q (.tuple #[]) H)
def f98.w (Q : Post) (data_0 : Value) (a_1 : Value) (b_2 : Value) (cmp_3 : Value) (H : Heap) : Prop :=
  W.bin .add a_1 (.int .i64 1) H fun v1 H =>
  W.loop (S := St [8]) (fun I1 s H => f98.l1 Q b_2 a_1 cmp_3 data_0 I1 s.1 H) (v1, ()) H
theorem f98.enter {Q : Post} {data_0 : Value} {a_1 : Value} {b_2 : Value} {cmp_3 : Value} {H : Heap} (h : f98.w Q data_0 a_1 b_2 cmp_3 H) : Runs Tryz.prog 98 #[data_0, a_1, b_2, cmp_3] H Q :=
  fn_enter (ann := [(1, [8]), (4, [9])]) (by kernel_rfl) Tryz.func98 rfl (by kernel_rfl) h (by kernel_rfl)

/- slices.choosePivotCmpFunc[[]loop.example/g01343/impl.Frac] -/
def f101.j2 (Q : Post) (v2 : Value) (j_13' : Value) (H : Heap) : Prop :=
  W.get v2 H fun v18 H =>
  W.bin .eql v18 (.int .i64 0) H fun v19 H =>
  W.cond v19 H
  (fun H => Q (.tuple #[j_13', (.int .i64 1)]) H)
  (fun H => W.bin .eql v18 (.int .i64 12) H fun v20 H =>
   W.cond v20 H
   (fun H => Q (.tuple #[j_13', (.int .i64 2)]) H)
   (fun H => Q (.tuple #[j_13', (.int .i64 0)]) H))
def f101.j1 (Q : Post) (data_0 : Value) (v2 : Value) (cmp_3 : Value) (i_12 : Value) (j_13 : Value) (k_14 : Value) (H : Heap) : Prop :=
  W.call Tryz.prog (.func (.func 144) #[] #[]) #[data_0, i_12, j_13, k_14, v2, cmp_3] H fun v17 H =>
  f101.j2 Q v2 v17 H
def f101.w (Q : Post) (data_0 : Value) (a_1 : Value) (b_2 : Value) (cmp_3 : Value) (H : Heap) : Prop :=
  W.bin .sub b_2 a_1 H fun v1 H =>
  W.new [(.int .i64 0)] 3 H fun v2 H =>
  W.bin .quo v1 (.int .i64 4) H fun v3 H =>
  W.bin .mul v3 (.int .i64 1) H fun v4 H =>
  W.bin .add a_1 v4 H fun v5 H =>
  W.bin .quo v1 (.int .i64 4) H fun v6 H =>
  W.bin .mul v6 (.int .i64 2) H fun v7 H =>
  W.bin .add a_1 v7 H fun v8 H =>
  W.bin .quo v1 (.int .i64 4) H fun v9 H =>
  W.bin .mul v9 (.int .i64 3) H fun v10 H =>
  W.bin .add a_1 v10 H fun v11 H =>
  W.bin .geq v1 (.int .i64 8) H fun v12 H =>
  W.cond v12 H
  (fun H => W.bin .geq v1 (.int .i64 50) H fun v13 H =>
   W.cond v13 H
   (fun H => W.call Tryz.prog (.func (.func 143) #[] #[]) #[data_0, v5, v2, cmp_3] H fun v14 H =>
    W.call Tryz.prog (.func (.func 143) #[] #[]) #[data_0, v8, v2, cmp_3] H fun v15 H =>
    W.call Tryz.prog (.func (.func 143) #[] #[]) #[data_0, v11, v2, cmp_3] H fun v16 H =>
    f101.j1 Q data_0 v2 cmp_3 v14 v15 v16 H)
   (fun H => f101.j1 Q data_0 v2 cmp_3 v5 v8 v11 H))
  (fun H => f101.j2 Q v2 v8 H)
theorem f101.enter {Q : Post} {data_0 : Value} {a_1 : Value} {b_2 : Value} {cmp_3 : Value} {H : Heap} (h : f101.w Q data_0 a_1 b_2 cmp_3 H) : Runs Tryz.prog 101 #[data_0, a_1, b_2, cmp_3] H Q :=
  fn_enter (ann := []) (by kernel_rfl) Tryz.func101 rfl (by kernel_rfl) h (by kernel_rfl)

/- slices.medianCmpFunc[[]loop.example/g01343/impl.Frac] -/
def f144.w (Q : Post) (data_0 : Value) (a_1 : Value) (b_2 : Value) (c_3 : Value) (swaps_4 : Value) (cmp_5 : Value) (H : Heap) : Prop :=
  W.call Tryz.prog (.func (.func 149) #[] #[]) #[data_0, a_1, b_2, swaps_4, cmp_5] H fun v1 H =>
  W.extract 0 v1 H fun v2 H =>
  W.extract 1 v1 H fun v3 H =>
  W.call Tryz.prog (.func (.func 149) #[] #[]) #[data_0, v3, c_3, swaps_4, cmp_5] H fun v4 H =>
  W.extract 0 v4 H fun v5 H =>
  W.extract 1 v4 H fun v6 H =>
  W.call Tryz.prog (.func (.func 149) #[] #[]) #[data_0, v2, v5, swaps_4, cmp_5] H fun v7 H =>
  W.extract 0 v7 H fun v8 H =>
  W.extract 1 v7 H fun v9 H =>
  Q v9 H
theorem f144.enter {Q : Post} {data_0 : Value} {a_1 : Value} {b_2 : Value} {c_3 : Value} {swaps_4 : Value} {cmp_5 : Value} {H : Heap} (h : f144.w Q data_0 a_1 b_2 c_3 swaps_4 cmp_5 H) : Runs Tryz.prog 144 #[data_0, a_1, b_2, c_3, swaps_4, cmp_5] H Q :=
  fn_enter (ann := []) (by kernel_rfl) Tryz.func144 rfl (by kernel_rfl) h (by kernel_rfl)

/- slices.order2CmpFunc[[]loop.example/g01343/impl.Frac] -/
def f149.w (Q : Post) (data_0 : Value) (a_1 : Value) (b_2 : Value) (swaps_3 : Value) (cmp_4 : Value) (H : Heap) : Prop :=
  W.indexAddr 1 data_0 b_2 H fun v1 H =>
  W.get v1 H fun v2 H =>
  W.indexAddr 1 data_0 a_1 H fun v3 H =>
  W.get v3 H fun v4 H =>
  W.callQ Tryz.prog cmp_4 #[v2, v4] H fun v5 H =>
  W.bin .lss v5 (.int .i64 0) H fun v6 H =>
  W.cond v6 H
  (fun H => W.nilCheck swaps_3 H fun v7 H =>
   W.get v7 H fun v8 H =>
   W.bin .add v8 (.int .i64 1) H fun v9 H =>
   W.nilCheck swaps_3 H fun v10 H =>
   W.put v10 v9 H fun _ H =>
   Q (.tuple #[b_2, a_1]) H)
  (fun H => Q (.tuple #[a_1, b_2]) H)
theorem f149.enter {Q : Post} {data_0 : Value} {a_1 : Value} {b_2 : Value} {swaps_3 : Value} {cmp_4 : Value} {H : Heap} (h : f149.w Q data_0 a_1 b_2 swaps_3 cmp_4 H) : Runs Tryz.prog 149 #[data_0, a_1, b_2, swaps_3, cmp_4] H Q :=
  fn_enter (ann := []) (by kernel_rfl) Tryz.func149 rfl (by kernel_rfl) h (by kernel_rfl)

/- slices.partialInsertionSortCmpFunc[[]loop.example/g01343/impl.Frac] -/
def f103.j4 (Q : Post) (j_10 : Value) (i_9' : Value) (I1 : St [9, 10] → Heap → Prop) (H : Heap) : Prop :=
  W.bin .add j_10 (.int .i64 1) H fun v54 H =>
  I1 (i_9', v54, ()) H
def f103.j3 (Q : Post) (j_10 : Value) (i_9' : Value) (I1 : St [9, 10] → Heap → Prop) (H : Heap) : Prop :=
  f103.j4 Q j_10 i_9' I1 H
def f103.l4 (Q : Post) (b_2 : Value) (data_0 : Value) (cmp_3 : Value) (j_10 : Value) (i_9' : Value) (I1 : St [9, 10] → Heap → Prop) (I4 : St [12] → Heap → Prop) (j_12 : Value) (H : Heap) : Prop :=
  W.bin .lss j_12 b_2 H fun v45 H =>
  W.cond v45 H
  (fun H => W.indexAddr 1 data_0 j_12 H fun v46 H =>
   W.get v46 H fun v47 H =>
   W.bin .sub j_12 (.int .i64 1) H fun v48 H =>
   W.indexAddr 1 data_0 v48 H fun v49 H =>
   W.get v49 H fun v50 H =>
   W.callQ Tryz.prog cmp_3 #[v47, v50] H fun v51 H =>
   W.bin .lss v51 (.int .i64 0) H fun v52 H =>
   W.un .not v52 H fun v53 H =>
   W.cond v53 H
   (fun H => f103.j3 Q j_10 i_9' I1 H)
   (fun H => W.bin .sub j_12 (.int .i64 1) H fun v55 H =>
    W.bin .sub j_12 (.int .i64 1) H fun v56 H =>
    W.indexAddr 1 data_0 v56 H fun v57 H =>
    W.get v57 H fun v58 H =>
    W.indexAddr 1 data_0 j_12 H fun v59 H =>
    W.get v59 H fun v60 H =>
    W.indexAddr 1 data_0 j_12 H fun v61 H =>
    W.put v61 v58 H fun _ H =>
    W.indexAddr 1 data_0 v55 H fun v62 H =>
    W.put v62 v60 H fun _ H =>
    W.bin .add j_12 (.int .i64 1) H fun v63 H =>
    I4 (v63, ()) H))
  (fun H => f103.j3 Q j_10 i_9' I1 H)
def f103.j2 (Q : Post) (b_2 : Value) (i_9' : Value) (data_0 : Value) (cmp_3 : Value) (j_10 : Value) (I1 : St [9, 10] → Heap → Prop) (H : Heap) : Prop :=
  W.bin .sub b_2 i_9' H fun v42 H =>
  W.bin .geq v42 (.int .i64 2) H fun v43 H =>
  W.cond v43 H
  (fun H => W.bin .add i_9' (.int .i64 1) H fun v44 H =>
   W.loop (S := St [12]) (fun I4 s H => f103.l4 Q b_2 data_0 cmp_3 j_10 i_9' I1 I4 s.1 H) (v44, ()) H)
  (fun H => f103.j4 Q j_10 i_9' I1 H)
def f103.j1 (Q : Post) (b_2 : Value) (i_9' : Value) (data_0 : Value) (cmp_3 : Value) (j_10 : Value) (I1 : St [9, 10] → Heap → Prop) (H : Heap) : Prop :=
  f103.j2 Q b_2 i_9' data_0 cmp_3 j_10 I1 H
def f103.l3 (Q : Post) (data_0 : Value) (cmp_3 : Value) (b_2 : Value) (i_9' : Value) (j_10 : Value) (I1 : St [9, 10] → Heap → Prop) (I3 : St [11] → Heap → Prop) (j_11 : Value) (H : Heap) : Prop :=
  W.bin .geq j_11 (.int .i64 1) H fun v33 H =>
  W.cond v33 H
  (fun H => W.indexAddr 1 data_0 j_11 H fun v34 H =>
   W.get v34 H fun v35 H =>
   W.bin .sub j_11 (.int .i64 1) H fun v36 H =>
   W.indexAddr 1 data_0 v36 H fun v37 H =>
   W.get v37 H fun v38 H =>
   W.callQ Tryz.prog cmp_3 #[v35, v38] H fun v39 H =>
   W.bin .lss v39 (.int .i64 0) H fun v40 H =>
   W.un .not v40 H fun v41 H =>
   W.cond v41 H
   (fun H => f103.j1 Q b_2 i_9' data_0 cmp_3 j_10 I1 H)
   (fun H => W.bin .sub j_11 (.int .i64 1) H fun v64 H =>
    W.bin .sub j_11 (.int .i64 1) H fun v65 H =>
    W.indexAddr 1 data_0 v65 H fun v66 H =>
    W.get v66 H fun v67 H =>
    W.indexAddr 1 data_0 j_11 H fun v68 H =>
    W.get v68 H fun v69 H =>
    W.indexAddr 1 data_0 j_11 H fun v70 H =>
    W.put v70 v67 H fun _ H =>
    W.indexAddr 1 data_0 v64 H fun v71 H =>
    W.put v71 v69 H fun _ H =>
    W.bin .sub j_11 (.int .i64 1) H fun v72 H =>
    I3 (v72, ()) H))
  (fun H => f103.j1 Q b_2 i_9' data_0 cmp_3 j_10 I1 H)
def f103.l2 (Q : Post) (b_2 : Value) (cmp_3 : Value) (data_0 : Value) (a_1 : Value) (j_10 : Value) (I1 : St [9, 10] → Heap → Prop) (I2 : St [9] → Heap → Prop) (i_9' : Value) (H : Heap) : Prop :=
  W.bin .lss i_9' b_2 H fun v3 H =>
  W.guarded v3 true (fun H k => k cmp_3 H) H fun v4 H =>
  W.guarded v3 true (fun H k => k data_0 H) H fun v5 H =>
  W.guarded v3 true (fun H k => k i_9' H) H fun v6 H =>
  W.guarded v3 true (fun H k => W.indexAddr 1 v5 v6 H k) H fun v7 H =>
  W.guarded v3 true (fun H k => W.get v7 H k) H fun v8 H =>
  W.guarded v3 true (fun H k => k data_0 H) H fun v9 H =>
  W.guarded v3 true (fun H k => k i_9' H) H fun v10 H =>
  W.guarded v3 true (fun H k => W.bin .sub v10 (.int .i64 1) H k) H fun v11 H =>
  W.guarded v3 true (fun H k => W.indexAddr 1 v9 v11 H k) H fun v12 H =>
  W.guarded v3 true (fun H k => W.get v12 H k) H fun v13 H =>
  W.guarded v3 true (fun H k => W.callQ Tryz.prog v4 #[v8, v13] H k) H fun v14 H =>
  W.guarded v3 true (fun H k => W.bin .lss v14 (.int .i64 0) H k) H fun v15 H =>
  W.guarded v3 true (fun H k => W.un .not v15 H k) H fun v16 H =>
  W.pick v3 v16 (.bool false) H fun v17 H =>
  W.cond v17 H
  (fun H => W.bin .add i_9' (.int .i64 1) H fun v18 H =>
   I2 (v18, ()) H)
  (fun H => W.bin .eql i_9' b_2 H fun v19 H =>
   W.cond v19 H
   (fun H => Q (.bool true) H)
   (fun H => W.bin .sub b_2 a_1 H fun v20 H =>
    W.bin .lss v20 (.int .i64 50) H fun v21 H =>
    W.cond v21 H
    (fun H => Q (.bool false) H)
    (fun H => W.bin .sub i_9' (.int .i64 1) H fun v22 H =>
     W.bin .sub i_9' (.int .i64 1) H fun v23 H =>
     W.indexAddr 1 data_0 v23 H fun v24 H =>
     W.get v24 H fun v25 H =>
     W.indexAddr 1 data_0 i_9' H fun v26 H =>
     W.get v26 H fun v27 H =>
     W.indexAddr 1 data_0 i_9' H fun v28 H =>
     W.put v28 v25 H fun _ H =>
     W.indexAddr 1 data_0 v22 H fun v29 H =>
     W.put v29 v27 H fun _ H =>
     W.bin .sub i_9' a_1 H fun v30 H =>
     W.bin .geq v30 (.int .i64 2) H fun v31 H =>
     W.cond v31 H
     (fun H => W.bin .sub i_9' (.int .i64 1) H fun v32 H =>
      W.loop (S := St [11]) (fun I3 s H => f103.l3 Q data_0 cmp_3 b_2 i_9' j_10 I1 I3 s.1 H) (v32, ()) H)
     (fun H => f103.j2 Q b_2 i_9' data_0 cmp_3 j_10 I1 H))))
def f103.l1 (Q : Post) (b_2 : Value) (cmp_3 : Value) (data_0 : Value) (a_1 : Value) (I1 : St [9, 10] → Heap → Prop) (i_9 : Value) (j_10 : Value) (H : Heap) : Prop :=
  W.bin .lss j_10 (.int .i64 5) H fun v2 H =>
  W.cond v2 H
  (fun H => W.loop (S := St [9]) (fun I2 s H => f103.l2 Q b_2 cmp_3 data_0 a_1 j_10 I1 I2 s.1 H) (i_9, ()) H)
  (fun H => Q (.bool false) H)
def f103.w (Q : Post) (data_0 : Value) (a_1 : Value) (b_2 : Value) (cmp_3 : Value) (H : Heap) : Prop :=
  W.bin .add a_1 (.int .i64 1) H fun v1 H =>
  W.loop (S := St [9, 10]) (fun I1 s H => f103.l1 Q b_2 cmp_3 data_0 a_1 I1 s.1 s.2.1 H) (v1, (.int .i64 0), ()) H
theorem f103.enter {Q : Post} {data_0 : Value} {a_1 : Value} {b_2 : Value} {cmp_3 : Value} {H : Heap} (h : f103.w Q data_0 a_1 b_2 cmp_3 H) : Runs Tryz.prog 103 #[data_0, a_1, b_2, cmp_3] H Q :=
  fn_enter (ann := [(3, [9, 10]), (5, [9]), (14, [11]), (20, [12])]) (by kernel_rfl) Tryz.func103 rfl (by kernel_rfl) h (by kernel_rfl)

/- math/bits.Len -/
def f53.w (Q : Post) (x_0 : Value) (H : Heap) : Prop :=
  W.cond (.bool false) H
  (fun H => W.conv .u32 x_0 H fun v1 H =>
   W.call Tryz.prog (.func (.func 106) #[] #[]) #[v1] H fun v2 H =>
   Q v2 H)
  (fun H => W.call Tryz.prog (.func (.func 107) #[] #[]) #[x_0] H fun v3 H =>
   Q v3 H)
theorem f53.enter {Q : Post} {x_0 : Value} {H : Heap} (h : f53.w Q x_0 H) : Runs Tryz.prog 53 #[x_0] H Q :=
  fn_enter (ann := []) (by kernel_rfl) Tryz.func53 rfl (by kernel_rfl) h (by kernel_rfl)

/- math/bits.Len64 -/
def f107.j3 (Q : Post) (x_0''' : Value) (n_2'' : Value) (H : Heap) : Prop :=
  W.conv .u8 x_0''' H fun v9 H =>
  W.indexStr (.string { data := (List.toArray (List.append (List.append [0, 1, 2, 2, 3, 3, 3, 3, 4, 4, 4, 4, 4, 4, 4, 4, 5, 5, 5, 5, 5, 5, 5, 5, 5, 5, 5, 5, 5, 5, 5, 5, 6, 6, 6, 6, 6, 6, 6, 6, 6, 6, 6, 6, 6, 6, 6, 6, 6, 6, 6, 6, 6, 6, 6, 6, 6, 6, 6, 6, 6, 6, 6, 6] [7, 7, 7, 7, 7, 7, 7, 7, 7, 7, 7, 7, 7, 7, 7, 7, 7, 7, 7, 7, 7, 7, 7, 7, 7, 7, 7, 7, 7, 7, 7, 7, 7, 7, 7, 7, 7, 7, 7, 7, 7, 7, 7, 7, 7, 7, 7, 7, 7, 7, 7, 7, 7, 7, 7, 7, 7, 7, 7, 7, 7, 7, 7, 7]) (List.append [8, 8, 8, 8, 8, 8, 8, 8, 8, 8, 8, 8, 8, 8, 8, 8, 8, 8, 8, 8, 8, 8, 8, 8, 8, 8, 8, 8, 8, 8, 8, 8, 8, 8, 8, 8, 8, 8, 8, 8, 8, 8, 8, 8, 8, 8, 8, 8, 8, 8, 8, 8, 8, 8, 8, 8, 8, 8, 8, 8, 8, 8, 8, 8] [8, 8, 8, 8, 8, 8, 8, 8, 8, 8, 8, 8, 8, 8, 8, 8, 8, 8, 8, 8, 8, 8, 8, 8, 8, 8, 8, 8, 8, 8, 8, 8, 8, 8, 8, 8, 8, 8, 8, 8, 8, 8, 8, 8, 8, 8, 8, 8, 8, 8, 8, 8, 8, 8, 8, 8, 8, 8, 8, 8, 8, 8, 8, 8]))) }) v9 H fun v10 H =>
  W.conv .i64 v10 H fun v11 H =>
  W.bin .add n_2'' v11 H fun v12 H =>
  Q v12 H
def f107.j2 (Q : Post) (x_0'' : Value) (n_2' : Value) (H : Heap) : Prop :=
  W.bin .geq x_0'' (.int .u64 256) H fun v6 H =>
  W.cond v6 H
  (fun H => W.bin .shr x_0'' (.int .u64 8) H fun v7 H =>
   W.bin .add n_2' (.int .i64 8) H fun v8 H =>
   f107.j3 Q v7 v8 H)
  (fun H => f107.j3 Q x_0'' n_2' H)
def f107.j1 (Q : Post) (x_0' : Value) (n_2 : Value) (H : Heap) : Prop :=
  W.bin .geq x_0' (.int .u64 65536) H fun v3 H =>
  W.cond v3 H
  (fun H => W.bin .shr x_0' (.int .u64 16) H fun v4 H =>
   W.bin .add n_2 (.int .i64 16) H fun v5 H =>
   f107.j2 Q v4 v5 H)
  (fun H => f107.j2 Q x_0' n_2 H)
def f107.w (Q : Post) (x_0 : Value) (H : Heap) : Prop :=
  W.bin .geq x_0 (.int .u64 4294967296) H fun v1 H =>
  W.cond v1 H
  (fun H => W.bin .shr x_0 (.int .u64 32) H fun v2 H =>
   f107.j1 Q v2 (.int .i64 32) H)
  (fun H => f107.j1 Q x_0 (.int .i64 0) H)
theorem f107.enter {Q : Post} {x_0 : Value} {H : Heap} (h : f107.w Q x_0 H) : Runs Tryz.prog 107 #[x_0] H Q :=
  fn_enter (ann := []) (by kernel_rfl) Tryz.func107 rfl (by kernel_rfl) h (by kernel_rfl)


abbrev RFSS' : Rd (List (List Frac)) := Rd.slice RFS

theorem fn54 {H0 : Heap} {Q : Post} {va vb : Value} {Z : List Frac} (hz : ∀ a ∈ Z, isFr 1000000000 a = true) (ha : Has RFS H0 [va] Z) (hb : Has RFS H0 [vb] Z) (hQ : ∀ H', H0.Le H' → Q (.int .i64 0) H') :
    Runs Tryz.prog 54 #[va, vb, .func (.func 55) #[] #[]] H0 Q := by
  have hs := ha.small
  have h := ((Loc.start H0).lent ha).lent hb
  refine f54.enter ?_
  unfold f54.w
  refine Wl.len (v := va) (xs := Z) h ?_
  refine W.for_rule Z.length (fun i st H => st = (.int .i64 (i : Nat), ()) ∧ Ab.Loc H0 [.lent RFS [vb] Z, .lent RFS [va] Z] H) ⟨rfl, h⟩ ?_
  rintro i st H J hi ⟨rfl, h⟩ hJ
  refine Wi.lssC (fun hlt => Wi.tru ?_) fun hge => Wi.fls ?_
  · have hiz : i < Z.length := by omega
    obtain ⟨g1, g2, _⟩ := isFr_iff.1 (hz _ (List.getElem_mem hiz))
    refine Wl.atFr (v := va) (xs := Z) (i := i) h hiz fun _ _ => Wl.new h fun H b5 h => Wl.putA h rfl rfl rfl fun H h => Wl.len (v := vb) (xs := Z) h (Wi.geqC (fun g => absurd g (by omega)) fun _ => Wi.fls ?_)
    refine Wl.atFr (v := vb) (xs := Z) (i := i) h hiz fun _ _ => Wl.new h fun H b10 h => Wl.putA h rfl rfl rfl fun H h => Wl.getA (b := b5) h rfl (Wl.getA (b := b10) h rfl (Wi.call (fn55 (mulA (B := 1000000000) (show (Z[i]).1.natAbs ≤ 1000000000 by omega) (show (Z[i]).2.natAbs ≤ 1000000000 by omega)) (mulA (B := 1000000000) (show (Z[i]).1.natAbs ≤ 1000000000 by omega) (show (Z[i]).2.natAbs ≤ 1000000000 by omega)) (by decide) fun H l => ?_)))
    have h := (h.to l).tl.tl
    rw [Int.sub_self]
    refine Wi.neqC (fun g => absurd rfl g) fun _ => Wi.fls (Wi.add (by unfold I64; omega) (hJ _ _ hiz ⟨rfl, h⟩))
  · exact Wl.len (v := va) (xs := Z) h (Wl.len (v := vb) (xs := Z) h (Wi.lssC (fun g => absurd g (by omega)) fun _ => Wi.fls (hQ _ h.le)))

theorem fn24 {H0 : Heap} {Q : Post} {va vb : Value} {Z : List Frac} (hz : ∀ a ∈ Z, isFr 1000000000 a = true) (ha : Has RFS H0 [va] Z) (hb : Has RFS H0 [vb] Z) (hQ : ∀ H', H0.Le H' → Q (.int .i64 0) H') : Runs Tryz.prog 24 #[va, vb] H0 Q :=
  f24.enter (Wi.call (fn54 hz ha hb hQ))

section
variable {H0 : Heap} {Q : Post} {vd : Value} {Z : List Frac} {m : Nat}

theorem fn98 (hz : ∀ a ∈ Z, isFr 1000000000 a = true) (hd : Has RFSS' H0 [vd] (List.replicate m Z)) (hQ : ∀ H', H0.Le H' → Q (.tuple #[]) H') : Runs Tryz.prog 98 #[vd, .int .i64 0, .int .i64 (m : Nat), .func (.func 24) #[] #[]] H0 Q := by
  have hs := hd.small
  rw [List.length_replicate] at hs
  refine f98.enter ?_
  unfold f98.w
  refine Wi.add (by unfold I64; omega) ?_
  refine W.for_rule m (fun x st H => st = (.int .i64 ((x : Int) + 1), ()) ∧ H0.Le H) ⟨rfl, .refl _⟩ ?_
  rintro x st H J hx ⟨rfl, l⟩ hJ
  refine Wi.lssC (fun hlt => Wi.tru ?_) fun hge => Wi.fls (hQ _ l)
  have hxm : x + 1 < m := by omega
  refine W.for_rule 1 (fun _ st H' => st = (.int .i64 ((x : Int) + 1), ()) ∧ H' = H) ⟨rfl, rfl⟩ ?_
  rintro _ st H' J2 _ ⟨rfl, rfl⟩ _
  refine Wi.gtrC (fun _ => ?_) fun g => absurd (by omega) g
  simp only [gw]
  have e1 : ((x : Int) + 1) = ((x + 1 : Nat) : Int) := by omega
  rw [e1]
  refine Wl.at1H rfl (hd.le l) (i := x + 1) (by simpa using hxm) fun u1 h1 => Wi.sub (by unfold I64; omega) ?_
  rw [show ((x + 1 : Nat) : Int) - 1 = (x : Nat) by omega]
  refine Wl.at1H rfl (hd.le l) (i := x) (by simp; omega) fun u2 h2 => ?_
  rw [List.getElem_replicate] at h1 h2
  refine Wi.callQ (fn24 hz h1 h2 fun H l2 => ⟨l2, ?_⟩)
  refine Wi.lssC (fun g => absurd g (by decide)) fun _ => ?_
  simp only [gw]
  refine Wi.add (by unfold I64; omega) (hJ _ _ (by omega) ⟨?_, l.trans l2⟩)
  congr 1

theorem fn149 {a b : Nat} {sw : Value} (hz : ∀ a ∈ Z, isFr 1000000000 a = true) (hd : Has RFSS' H0 [vd] (List.replicate m Z)) (ha : a < m) (hb : b < m) (hQ : ∀ H', H0.Le H' → Q (.tuple #[.int .i64 (a : Nat), .int .i64 (b : Nat)]) H') :
    Runs Tryz.prog 149 #[vd, .int .i64 (a : Nat), .int .i64 (b : Nat), sw, .func (.func 24) #[] #[]] H0 Q := by
  refine f149.enter ?_
  unfold f149.w
  refine Wl.at1H rfl hd (i := b) (by simpa using hb) fun u1 h1 => Wl.at1H rfl hd (i := a) (by simpa using ha) fun u2 h2 => ?_
  rw [List.getElem_replicate] at h1 h2
  refine Wi.callQ (fn24 hz h1 h2 fun H l2 => ⟨l2, ?_⟩)
  exact Wi.lssC (fun g => absurd g (by decide)) fun _ => Wi.fls (hQ _ l2)

theorem fn144 {a b c : Nat} {sw : Value} (hz : ∀ a ∈ Z, isFr 1000000000 a = true) (hd : Has RFSS' H0 [vd] (List.replicate m Z)) (ha : a < m) (hb : b < m) (hc : c < m) (hQ : ∀ H', H0.Le H' → Q (.int .i64 (b : Nat)) H') :
    Runs Tryz.prog 144 #[vd, .int .i64 (a : Nat), .int .i64 (b : Nat), .int .i64 (c : Nat), sw, .func (.func 24) #[] #[]] H0 Q := by
  refine f144.enter ?_
  unfold f144.w
  refine Wi.call (fn149 hz hd ha hb fun H l1 => ?_)
  simp only [gw]
  refine Wi.call (fn149 hz (hd.le l1) hb hc fun H l2 => ?_)
  simp only [gw]
  refine Wi.call (fn149 hz (hd.le (l1.trans l2)) ha hb fun H l3 => ?_)
  simp only [gw]
  exact hQ _ ((l1.trans l2).trans l3)

theorem fn101 (hz : ∀ a ∈ Z, isFr 1000000000 a = true) (hd : Has RFSS' H0 [vd] (List.replicate m Z)) (hm : 8 ≤ m ∧ m < 50) (hQ : ∀ H' (j : Nat), H0.Le H' → Q (.tuple #[.int .i64 (j : Nat), .int .i64 1]) H') :
    Runs Tryz.prog 101 #[vd, .int .i64 0, .int .i64 (m : Nat), .func (.func 24) #[] #[]] H0 Q := by
  refine f101.enter ?_
  unfold f101.w
  have h := (Loc.start H0).lent hd
  have e4 : (m : Int).tdiv 4 = ((m / 4 : Nat) : Int) := rfl
  have q : ∀ {K : Post} {H : Heap}, K (.int .i64 ((m / 4 : Nat) : Int)) H → W.bin .quo (.int .i64 (m : Nat)) (.int .i64 4) H K := fun hk => Wi.quo (by decide) (by rw [e4]; unfold I64; omega) (by rw [e4]; exact hk)
  refine Wi.sub (by unfold I64; omega) ?_
  rw [Int.sub_zero]
  refine Wl.new h fun H b2 h => q (Wi.mul (by unfold I64; omega) (Wi.add (by unfold I64; omega) (q (Wi.mul (by unfold I64; omega) (Wi.add (by unfold I64; omega) (q (Wi.mul (by unfold I64; omega) (Wi.add (by unfold I64; omega) ?_))))))))
  rw [show (0 : Int) + ((m / 4 : Nat) : Int) * 1 = ((m / 4 : Nat) : Int) by omega, show (0 : Int) + ((m / 4 : Nat) : Int) * 2 = ((m / 4 * 2 : Nat) : Int) by omega, show (0 : Int) + ((m / 4 : Nat) : Int) * 3 = ((m / 4 * 3 : Nat) : Int) by omega]
  refine Wi.geqC (fun _ => Wi.tru (Wi.geqC (fun g => absurd g (by omega)) fun _ => Wi.fls ?_)) fun g => absurd (by omega) g
  unfold f101.j1
  refine Wi.call (fn144 hz (h.rd (cs := [vd])) (by omega) (by omega) (by omega) fun H l => ?_)
  have h := h.to l
  unfold f101.j2
  refine Wl.get (b := b2) (o := 0) h rfl (Wi.eqlC (fun _ => Wi.tru (hQ _ _ h.le)) fun g => absurd rfl g)

theorem fn103 (hz : ∀ a ∈ Z, isFr 1000000000 a = true) (hd : Has RFSS' H0 [vd] (List.replicate m Z)) (hm : 1 ≤ m) (hQ : ∀ H', H0.Le H' → Q (.bool true) H') :
    Runs Tryz.prog 103 #[vd, .int .i64 0, .int .i64 (m : Nat), .func (.func 24) #[] #[]] H0 Q := by
  have hs := hd.small
  rw [List.length_replicate] at hs
  refine f103.enter ?_
  unfold f103.w
  refine Wi.add (by unfold I64; omega) ?_
  refine W.for_rule 1 (fun _ st H' => st = (.int .i64 ((0 : Int) + 1), .int .i64 0, ()) ∧ H' = H0) ⟨rfl, rfl⟩ ?_
  rintro _ st H' J2 _ ⟨rfl, rfl⟩ _
  refine Wi.lssC (fun _ => Wi.tru ?_) fun g => absurd (by decide) g
  refine W.for_rule m (fun x st H => st = (.int .i64 ((x : Int) + 1), ()) ∧ x < m ∧ H'.Le H) ⟨rfl, by omega, .refl _⟩ ?_
  rintro x st H J hx ⟨rfl, hxm, l⟩ hJ
  refine Wi.lssC (fun hlt => ?_) fun hge => ?_
  · have hx1 : x + 1 < m := by omega
    simp only [gw]
    have e1 : ((x : Int) + 1) = ((x + 1 : Nat) : Int) := by omega
    rw [e1]
    refine Wl.at1H rfl (hd.le l) (i := x + 1) (by simpa using hx1) fun u1 h1 => Wi.sub (by unfold I64; omega) ?_
    rw [show ((x + 1 : Nat) : Int) - 1 = (x : Nat) by omega]
    refine Wl.at1H rfl (hd.le l) (i := x) (by simp; omega) fun u2 h2 => ?_
    rw [List.getElem_replicate] at h1 h2
    refine Wi.callQ (fn24 hz h1 h2 fun H l2 => ⟨l2, ?_⟩)
    refine Wi.lssC (fun g => absurd g (by decide)) fun _ => ?_
    simp only [gw]
    refine Wi.add (by unfold I64; omega) (hJ _ _ (by omega) ⟨?_, hx1, l.trans l2⟩)
    congr 1
  · simp only [gw]
    exact Wi.eqlC (fun _ => Wi.tru (hQ _ l)) fun g => absurd (by omega) g

end

end Go.Proofs.YtdmgomeogedjgaaGreat
/-! The library's sort where all elements are alike: the whole. No condition. -/
namespace Go.Proofs.YtdmgomeogedjgaaGreat
open Go.Ab

theorem Wi.tab {s : ByteArray} {m : Nat} {κ : IntKind} {K : Post} {H : Heap} (hs : ((List.range 64).all fun m => m == 0 || (match s[m]? with | some b => decide (1 ≤ b.toNat) | none => false)) = true) (hm : 1 ≤ m ∧ m < 64) (hK : ∀ b : Nat, 1 ≤ b → b < 256 → K (.int .u8 (b : Nat)) H) :
    W.indexStr (.string s) (.int κ (m : Nat)) H K := by
  have h := List.all_eq_true.1 hs m (by simpa using hm.2)
  unfold W.indexStr
  refine ⟨by omega, ?_⟩
  rw [Int.toNat_natCast]
  rw [show (m == 0) = false by simp; omega, Bool.false_or] at h
  cases e : s[m]? with
  | none => rw [e] at h; cases h
  | some b =>
    rw [e] at h
    exact hK _ (of_decide_eq_true h) b.toNat_lt

theorem Wi.convU8 {m : Nat} {κ : IntKind} {K : Post} {H : Heap} (hm : m < 256) (h : K (.int .u8 (m : Nat)) H) : W.conv .u8 (.int κ (m : Nat)) H K := by
  have e : IntKind.u8.wrap (m : Int) = m := by
    simp only [IntKind.wrap, IntKind.signed, IntKind.bits]
    simp
    omega
  show K (.int .u8 (IntKind.u8.wrap (m : Int))) H
  rw [e]
  exact h

theorem fn53 {H0 : Heap} {Q : Post} {m : Nat} (hm : 1 ≤ m ∧ m < 64) (hQ : ∀ k : Int, 1 ≤ k → Q (.int .i64 k) H0) : Runs Tryz.prog 53 #[.int .u64 (m : Nat)] H0 Q := by
  refine f53.enter (Wi.fls (Wi.call (f107.enter ?_)))
  unfold f107.w
  generalize h1 : (4294967296 : Int) = t1
  refine Wi.geqC (fun g => absurd g (by omega)) fun _ => Wi.fls ?_
  unfold f107.j1
  generalize h2 : (65536 : Int) = t2
  refine Wi.geqC (fun g => absurd g (by omega)) fun _ => Wi.fls ?_
  unfold f107.j2
  refine Wi.geqC (fun g => absurd g (by omega)) fun _ => Wi.fls ?_
  unfold f107.j3
  refine Wi.convU8 (by omega) ?_
  refine Wi.tab (by decide +kernel) hm fun b hb1 hb2 => Wi.convI (by unfold I64; omega) (Wi.add (by unfold I64; omega) (hQ _ (by omega)))

section
variable {H0 : Heap} {Q : Post} {vd : Value} {Z : List Frac} {m : Nat}

theorem fn52 {lim : Int} (hz : ∀ a ∈ Z, isFr 1000000000 a = true) (hd : Has RFSS' H0 [vd] (List.replicate m Z)) (hm : m < 50) (hl : lim ≠ 0) (hQ : ∀ H', H0.Le H' → Q (.tuple #[]) H') : Runs Tryz.prog 52 #[vd, .int .i64 0, .int .i64 (m : Nat), .int .i64 lim, .func (.func 24) #[] #[]] H0 Q := by
  refine f52.enter ?_
  unfold f52.w
  refine W.for_rule 1 (fun _ st H' => st = (.int .i64 0, .int .i64 (m : Nat), .int .i64 lim, .bool true, .bool true, ()) ∧ H' = H0) ⟨rfl, rfl⟩ ?_
  rintro _ st H' J _ ⟨rfl, rfl⟩ _
  refine Wi.sub (by unfold I64; omega) ?_
  rw [Int.sub_zero]
  refine Wi.leqC (fun _ => Wi.tru (Wi.call (fn98 hz hd fun H l => hQ _ l))) fun g => Wi.fls (Wi.eqlC (fun e => absurd e hl) fun _ => Wi.fls (Wi.not (Wi.fls ?_)))
  unfold f52.j1
  refine Wi.call (fn101 hz hd ⟨by omega, hm⟩ fun H j l => ?_)
  simp only [gw]
  refine Wi.eqlC (fun e => absurd e (by decide)) fun _ => Wi.fls ?_
  unfold f52.j2
  simp only [gw]
  refine Wi.eqlC (fun _ => ?_) fun e => absurd rfl e
  simp only [gw]
  refine Wi.call (fn103 hz (hd.le l) (by omega) fun H l2 => ?_)
  exact Wi.tru (hQ _ (l.trans l2))

theorem fn23 (hz : ∀ a ∈ Z, isFr 1000000000 a = true) (hd : Has RFSS' H0 [vd] (List.replicate m Z)) (hm : 1 ≤ m ∧ m < 50) (hQ : ∀ H', H0.Le H' → Q (.tuple #[]) H') : Runs Tryz.prog 23 #[vd, .func (.func 24) #[] #[]] H0 Q := by
  refine f23.enter ?_
  unfold f23.w
  refine Wl.lenH hd ?_
  rw [List.length_replicate]
  refine Wi.convN (by omega) (Wi.call (fn53 ⟨hm.1, by omega⟩ fun k hk => Wi.call (fn52 hz hd hm.2 (by omega) fun H l => hQ _ l)))

end

end Go.Proofs.YtdmgomeogedjgaaGreat

/-! slices.CompactFunc where all elements are alike. No condition. -/
namespace Go.Proofs.YtdmgomeogedjgaaGreat
open Go.Ab

/- slices.CompactFunc[[][]loop.example/g01343/impl.Frac,[]loop.example/g01343/impl.Frac] -/
def f25.j1 (Q : Post) (k2_7 : Value) (I2 : St [5, 7] → Heap → Prop) (k_5'' : Value) (H : Heap) : Prop :=
  W.bin .add k2_7 (.int .i64 1) H fun v25 H =>
  I2 (k_5'', v25, ()) H
def f25.l2 (Q : Post) (v11 : Value) (eq_1 : Value) (s_0 : Value) (I2 : St [5, 7] → Heap → Prop) (k_5' : Value) (k2_7 : Value) (H : Heap) : Prop :=
  W.len v11 H fun v12 H =>
  W.bin .lss k2_7 v12 H fun v13 H =>
  W.cond v13 H
  (fun H => W.indexAddr 1 v11 k2_7 H fun v14 H =>
   W.get v14 H fun v15 H =>
   W.bin .sub k2_7 (.int .i64 1) H fun v16 H =>
   W.indexAddr 1 v11 v16 H fun v17 H =>
   W.get v17 H fun v18 H =>
   W.callQ Tryz.prog eq_1 #[v15, v18] H fun v19 H =>
   W.un .not v19 H fun v20 H =>
   W.cond v20 H
   (fun H => W.indexAddr 1 v11 k2_7 H fun v21 H =>
    W.get v21 H fun v22 H =>
    W.indexAddr 1 s_0 k_5' H fun v23 H =>
    W.put v23 v22 H fun _ H =>
    W.bin .add k_5' (.int .i64 1) H fun v24 H =>
    f25.j1 Q k2_7 I2 v24 H)
   (fun H => f25.j1 Q k2_7 I2 k_5' H))
  (fun H => W.slice 1 s_0 (some k_5') none H fun v26 H =>
   W.clear [(.slice none 0 0)] v26 H fun _ H =>
   W.slice 1 s_0 none (some k_5') H fun v27 H =>
   Q v27 H)
def f25.l1 (Q : Post) (s_0 : Value) (eq_1 : Value) (I1 : St [5] → Heap → Prop) (k_5 : Value) (H : Heap) : Prop :=
  W.len s_0 H fun v3 H =>
  W.bin .lss k_5 v3 H fun v4 H =>
  W.cond v4 H
  (fun H => W.indexAddr 1 s_0 k_5 H fun v5 H =>
   W.get v5 H fun v6 H =>
   W.bin .sub k_5 (.int .i64 1) H fun v7 H =>
   W.indexAddr 1 s_0 v7 H fun v8 H =>
   W.get v8 H fun v9 H =>
   W.callQ Tryz.prog eq_1 #[v6, v9] H fun v10 H =>
   W.cond v10 H
   (fun H => W.slice 1 s_0 (some k_5) none H fun v11 H =>
    W.loop (S := St [5, 7]) (fun I2 s H => f25.l2 Q v11 eq_1 s_0 I2 s.1 s.2.1 H) (k_5, (.int .i64 1), ()) H)
   (fun H => W.bin .add k_5 (.int .i64 1) H fun v28 H =>
    I1 (v28, ()) H))
  (fun H => Q s_0 H)
def f25.w (Q : Post) (s_0 : Value) (eq_1 : Value) (H : Heap) : Prop :=
  W.len s_0 H fun v1 H =>
  W.bin .lss v1 (.int .i64 2) H fun v2 H =>
  W.cond v2 H
  (fun H => Q s_0 H)
  (fun H => W.loop (S := St [5]) (fun I1 s H => f25.l1 Q s_0 eq_1 I1 s.1 H) ((.int .i64 1), ()) H)
theorem f25.enter {Q : Post} {s_0 : Value} {eq_1 : Value} {H : Heap} (h : f25.w Q s_0 eq_1 H) : Runs Tryz.prog 25 #[s_0, eq_1] H Q :=
  fn_enter (ann := [(4, [5]), (9, [5, 7])]) (by kernel_rfl) Tryz.func25 rfl (by kernel_rfl) h (by kernel_rfl)

/- loop.example/g01343/impl.SolutionsOf$1 -/
def f26.w (Q : Post) (a_0 : Value) (b_1 : Value) (H : Heap) : Prop :=
  W.call Tryz.prog (.func (.func 24) #[] #[]) #[a_0, b_1] H fun v1 H =>
  W.bin .eql v1 (.int .i64 0) H fun v2 H =>
  Q v2 H
theorem f26.enter {Q : Post} {a_0 : Value} {b_1 : Value} {H : Heap} (h : f26.w Q a_0 b_1 H) : Runs Tryz.prog 26 #[a_0, b_1] H Q :=
  fn_enter (ann := []) (by kernel_rfl) Tryz.func26 rfl (by kernel_rfl) h (by kernel_rfl)


theorem fn26 {H0 : Heap} {Q : Post} {va vb : Value} {Z : List Frac} (hz : ∀ a ∈ Z, isFr 1000000000 a = true) (ha : Has RFS H0 [va] Z) (hb : Has RFS H0 [vb] Z) (hQ : ∀ H', H0.Le H' → Q (.bool true) H') : Runs Tryz.prog 26 #[va, vb] H0 Q :=
  f26.enter (Wi.call (fn24 hz ha hb fun H l => Wi.eqlC (fun _ => hQ _ l) fun g => absurd rfl g))

theorem fn25 {H0 H : Heap} {L : List (Atom H0.next)} {Q : Post} {out : Value} {Z : List Frac} {m j : Nat} {ty : TypeId} (hz : ∀ a ∈ Z, isFr 1000000000 a = true) (h : Ab.Loc H0 L H) (hj : L[j]? = some (.grow RFS ty out (List.replicate m Z))) (hm : 1 ≤ m)
    (hQ : ∀ H' w, Ab.Loc H0 (L.set j (.data RFSS' [w] [Z])) H' → Q w H') : Runs Tryz.prog 25 #[out, .func (.func 26) #[] #[]] H Q := by
  have rd : ∀ H, Ab.Loc H0 L H → Has RFSS' H [out] (List.replicate m Z) := fun H h => by
    obtain ⟨bs, p, _⟩ := h.upd hj
    exact ⟨bs, (grow_data p).1⟩
  have hs := (rd H h).small
  rw [List.length_replicate] at hs
  refine f25.enter ?_
  unfold f25.w
  refine Wl.lenH (rd H h) ?_
  rw [List.length_replicate]
  refine Wi.lssC (fun h2 => Wi.tru ?_) fun h2 => Wi.fls ?_
  · have : m = 1 := by omega
    subst this
    refine hQ H out (h.as (i := j) hj fun bs p => ⟨bs, grow_data p, fun c hc => hc⟩)
  have hm2 : 2 ≤ m := by omega
  refine W.for_rule 1 (fun _ st H' => st = (.int .i64 1, ()) ∧ H' = H) ⟨rfl, rfl⟩ ?_
  rintro _ st H' J _ ⟨rfl, rfl⟩ _
  refine Wl.lenH (rd _ h) ?_
  rw [List.length_replicate]
  refine Wi.lssC (fun _ => Wi.tru ?_) fun g => absurd (by omega) g
  refine Wl.at1H rfl (rd _ h) (i := 1) (by simp; omega) fun u1 h1 => Wi.sub (by unfold I64; omega) (Wl.at1H rfl (rd _ h) (i := 0) (by simp; omega) fun u2 h2' => ?_)
  rw [List.getElem_replicate] at h1 h2'
  refine Wi.callQ (fn26 hz h1 h2' fun H l => ⟨l, ?_⟩)
  have h := h.to l
  refine Wi.tru ?_
  have hG : Has (Rd.gslice RFS ty) H [out] (List.replicate m Z) := by
    obtain ⟨bs, p, _⟩ := h.upd hj
    exact ⟨bs, out, rfl, p⟩
  refine Wl.cutHiG (k := 1) rfl hG (by simp; omega) fun w hw => ?_
  rw [List.drop_replicate] at hw
  refine W.for_rule m (fun x st H => st = (.int .i64 1, .int .i64 ((x : Int) + 1), ()) ∧ x + 1 ≤ m ∧ Ab.Loc H0 L H ∧ Has RFSS' H [w] (List.replicate (m - 1) Z)) ⟨rfl, by omega, h, hw⟩ ?_
  rintro x st H J2 hx ⟨rfl, hxm, h, hw⟩ hJ2
  refine Wl.lenH hw ?_
  rw [List.length_replicate]
  refine Wi.lssC (fun hlt => Wi.tru ?_) fun hge => Wi.fls ?_
  · have hx1 : x + 1 < m - 1 := by omega
    have e1 : ((x : Int) + 1) = ((x + 1 : Nat) : Int) := by omega
    rw [e1]
    refine Wl.at1H rfl hw (i := x + 1) (by simpa using hx1) fun u1 h1 => Wi.sub (by unfold I64; omega) ?_
    rw [show ((x + 1 : Nat) : Int) - 1 = (x : Nat) by omega]
    refine Wl.at1H rfl hw (i := x) (by simp; omega) fun u2 h2 => ?_
    rw [List.getElem_replicate] at h1 h2
    refine Wi.callQ (fn26 hz h1 h2 fun H l => ⟨l, Wi.not (Wi.fls ?_)⟩)
    unfold f25.j1
    refine Wi.add (by unfold I64; omega) (hJ2 _ _ (by omega) ⟨?_, by omega, h.to l, hw.le l⟩)
    congr 1
  · refine Wl.clearTail rfl h hj (by simp; omega) fun H' w' h' => hQ H' w' ?_
    have e : (List.replicate m Z).take 1 = [Z] := by
      obtain ⟨k, rfl⟩ : ∃ k, m = k + 1 := ⟨m - 1, by omega⟩
      simp [List.replicate_succ]
    rw [e] at h'
    exact h'

end Go.Proofs.YtdmgomeogedjgaaGreat
