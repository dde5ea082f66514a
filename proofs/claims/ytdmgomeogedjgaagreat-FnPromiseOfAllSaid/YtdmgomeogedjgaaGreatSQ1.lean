/- The library's sort of lists of fractions: its parts, each with what it keeps. No condition. -/
import Derived.Test.YtdmgomeogedjgaaGreatSQ0
import Derived.Test.YtdmgomeogedjgaaGreatGZB
namespace Go.Proofs.YtdmgomeogedjgaaGreat
open Go.Ab

/- slices.siftDownCmpFunc[[]loop.example/g01343/impl.Frac] -/
def f140.j1 (Q : Post) (first_3 : Value) (root_10 : Value) (data_0 : Value) (cmp_4 : Value) (I1 : St [10] → Heap → Prop) (child_11 : Value) (H : Heap) : Prop :=
  W.bin .add first_3 root_10 H fun v24 H =>
  W.indexAddr 1 data_0 v24 H fun v25 H =>
  W.get v25 H fun v26 H =>
  W.bin .add first_3 child_11 H fun v27 H =>
  W.indexAddr 1 data_0 v27 H fun v28 H =>
  W.get v28 H fun v29 H =>
  W.callQ Tryz.prog cmp_4 #[v26, v29] H fun v30 H =>
  W.bin .lss v30 (.int .i64 0) H fun v31 H =>
  W.un .not v31 H fun v32 H =>
  W.cond v32 H
  (fun H => Q (.tuple #[]) H)
  (fun H => W.bin .add first_3 root_10 H fun v33 H =>
   W.bin .add first_3 child_11 H fun v34 H =>
   W.bin .add first_3 child_11 H fun v35 H =>
   W.indexAddr 1 data_0 v35 H fun v36 H =>
   W.get v36 H fun v37 H =>
   W.bin .add first_3 root_10 H fun v38 H =>
   W.indexAddr 1 data_0 v38 H fun v39 H =>
   W.get v39 H fun v40 H =>
   W.indexAddr 1 data_0 v33 H fun v41 H =>
   W.put v41 v37 H fun _ H =>
   W.indexAddr 1 data_0 v34 H fun v42 H =>
   W.put v42 v40 H fun _ H =>
   I1 (child_11, ()) H)
def f140.l1 (Q : Post) (hi_2 : Value) (cmp_4 : Value) (data_0 : Value) (first_3 : Value) (I1 : St [10] → Heap → Prop) (root_10 : Value) (H : Heap) : Prop :=
  W.bin .mul (.int .i64 2) root_10 H fun v1 H =>
  W.bin .add v1 (.int .i64 1) H fun v2 H =>
  W.bin .geq v2 hi_2 H fun v3 H =>
  W.cond v3 H
  (fun H => Q (.tuple #[]) H)
  (fun H => W.bin .add v2 (.int .i64 1) H fun v4 H =>
   W.bin .lss v4 hi_2 H fun v5 H =>
   W.guarded v5 true (fun H k => k cmp_4 H) H fun v6 H =>
   W.guarded v5 true (fun H k => k data_0 H) H fun v7 H =>
   W.guarded v5 true (fun H k => k first_3 H) H fun v8 H =>
   W.guarded v5 true (fun H k => k v2 H) H fun v9 H =>
   W.guarded v5 true (fun H k => W.bin .add v8 v9 H k) H fun v10 H =>
   W.guarded v5 true (fun H k => W.indexAddr 1 v7 v10 H k) H fun v11 H =>
   W.guarded v5 true (fun H k => W.get v11 H k) H fun v12 H =>
   W.guarded v5 true (fun H k => k data_0 H) H fun v13 H =>
   W.guarded v5 true (fun H k => k first_3 H) H fun v14 H =>
   W.guarded v5 true (fun H k => k v2 H) H fun v15 H =>
   W.guarded v5 true (fun H k => W.bin .add v14 v15 H k) H fun v16 H =>
   W.guarded v5 true (fun H k => W.bin .add v16 (.int .i64 1) H k) H fun v17 H =>
   W.guarded v5 true (fun H k => W.indexAddr 1 v13 v17 H k) H fun v18 H =>
   W.guarded v5 true (fun H k => W.get v18 H k) H fun v19 H =>
   W.guarded v5 true (fun H k => W.callQ Tryz.prog v6 #[v12, v19] H k) H fun v20 H =>
   W.guarded v5 true (fun H k => W.bin .lss v20 (.int .i64 0) H k) H fun v21 H =>
   W.pick v5 v21 (.bool false) H fun v22 H =>
   W.cond v22 H
   (fun H => W.bin .add v2 (.int .i64 1) H fun v23 H =>
    f140.j1 Q first_3 root_10 data_0 cmp_4 I1 v23 H)
   (fun H => f140.j1 Q first_3 root_10 data_0 cmp_4 I1 v2 H))
def f140.w (Q : Post) (data_0 : Value) (lo_1 : Value) (hi_2 : Value) (first_3 : Value) (cmp_4 : Value) (H : Heap) : Prop :=
  W.loop (S := St [10]) (fun I1 s H => f140.l1 Q hi_2 cmp_4 data_0 first_3 I1 s.1 H) (lo_1, ()) H
theorem f140.enter {Q : Post} {data_0 : Value} {lo_1 : Value} {hi_2 : Value} {first_3 : Value} {cmp_4 : Value} {H : Heap} (h : f140.w Q data_0 lo_1 hi_2 first_3 cmp_4 H) : Runs Tryz.prog 140 #[data_0, lo_1, hi_2, first_3, cmp_4] H Q :=
  fn_enter (ann := [(1, [10])]) (by kernel_rfl) Tryz.func140 rfl (by kernel_rfl) h (by kernel_rfl)

/- slices.heapSortCmpFunc[[]loop.example/g01343/impl.Frac] -/
def f99.l2 (Q : Post) (a_1 : Value) (data_0 : Value) (cmp_3 : Value) (I2 : St [12] → Heap → Prop) (i_12 : Value) (H : Heap) : Prop :=
  W.bin .geq i_12 (.int .i64 0) H fun v8 H =>
  W.cond v8 H
  (fun H => W.bin .add a_1 i_12 H fun v9 H =>
   W.bin .add a_1 i_12 H fun v10 H =>
   W.indexAddr 1 data_0 v10 H fun v11 H =>
   W.get v11 H fun v12 H =>
   W.indexAddr 1 data_0 a_1 H fun v13 H =>
   W.get v13 H fun v14 H =>
   W.indexAddr 1 data_0 a_1 H fun v15 H =>
   W.put v15 v12 H fun _ H =>
   W.indexAddr 1 data_0 v9 H fun v16 H =>
   W.put v16 v14 H fun _ H =>
   W.call Tryz.prog (.func (.func 140) #[] #[]) #[data_0, (.int .i64 0), i_12, a_1, cmp_3] H fun v17 H =>
   W.bin .sub i_12 (.int .i64 1) H fun v18 H =>
   I2 (v18, ()) H)
  (fun H => Q (.tuple #[]) H)
def f99.l1 (Q : Post) (data_0 : Value) (v1 : Value) (a_1 : Value) (cmp_3 : Value) (I1 : St [11] → Heap → Prop) (i_11 : Value) (H : Heap) : Prop :=
  W.bin .geq i_11 (.int .i64 0) H fun v4 H =>
  W.cond v4 H
  (fun H => W.call Tryz.prog (.func (.func 140) #[] #[]) #[data_0, i_11, v1, a_1, cmp_3] H fun v5 H =>
   W.bin .sub i_11 (.int .i64 1) H fun v6 H =>
   I1 (v6, ()) H)
  (fun H => W.bin .sub v1 (.int .i64 1) H fun v7 H =>
   W.loop (S := St [12]) (fun I2 s H => f99.l2 Q a_1 data_0 cmp_3 I2 s.1 H) (v7, ()) H)
def f99.w (Q : Post) (data_0 : Value) (a_1 : Value) (b_2 : Value) (cmp_3 : Value) (H : Heap) : Prop :=
  W.bin .sub b_2 a_1 H fun v1 H =>
  W.bin .sub v1 (.int .i64 1) H fun v2 H =>
  W.bin .quo v2 (.int .i64 2) H fun v3 H =>
  W.loop (S := St [11]) (fun I1 s H => f99.l1 Q data_0 v1 a_1 cmp_3 I1 s.1 H) (v3, ()) H
theorem f99.enter {Q : Post} {data_0 : Value} {a_1 : Value} {b_2 : Value} {cmp_3 : Value} {H : Heap} (h : f99.w Q data_0 a_1 b_2 cmp_3 H) : Runs Tryz.prog 99 #[data_0, a_1, b_2, cmp_3] H Q :=
  fn_enter (ann := [(4, [11]), (8, [12])]) (by kernel_rfl) Tryz.func99 rfl (by kernel_rfl) h (by kernel_rfl)

/- slices.partitionCmpFunc[[]loop.example/g01343/impl.Frac] -/
def f105.l5 (Q : Post) (i_12'' : Value) (cmp_4 : Value) (data_0 : Value) (a_1 : Value) (I3 : St [12, 13] → Heap → Prop) (I5 : St [13] → Heap → Prop) (j_13'' : Value) (H : Heap) : Prop :=
  W.bin .leq i_12'' j_13'' H fun v67 H =>
  W.guarded v67 true (fun H k => k cmp_4 H) H fun v68 H =>
  W.guarded v67 true (fun H k => k data_0 H) H fun v69 H =>
  W.guarded v67 true (fun H k => k j_13'' H) H fun v70 H =>
  W.guarded v67 true (fun H k => W.indexAddr 1 v69 v70 H k) H fun v71 H =>
  W.guarded v67 true (fun H k => W.get v71 H k) H fun v72 H =>
  W.guarded v67 true (fun H k => k data_0 H) H fun v73 H =>
  W.guarded v67 true (fun H k => k a_1 H) H fun v74 H =>
  W.guarded v67 true (fun H k => W.indexAddr 1 v73 v74 H k) H fun v75 H =>
  W.guarded v67 true (fun H k => W.get v75 H k) H fun v76 H =>
  W.guarded v67 true (fun H k => W.callQ Tryz.prog v68 #[v72, v76] H k) H fun v77 H =>
  W.guarded v67 true (fun H k => W.bin .lss v77 (.int .i64 0) H k) H fun v78 H =>
  W.guarded v67 true (fun H k => W.un .not v78 H k) H fun v79 H =>
  W.pick v67 v79 (.bool false) H fun v80 H =>
  W.cond v80 H
  (fun H => W.bin .sub j_13'' (.int .i64 1) H fun v81 H =>
   I5 (v81, ()) H)
  (fun H => W.bin .gtr i_12'' j_13'' H fun v82 H =>
   W.cond v82 H
   (fun H => W.indexAddr 1 data_0 a_1 H fun v83 H =>
    W.get v83 H fun v84 H =>
    W.indexAddr 1 data_0 j_13'' H fun v85 H =>
    W.get v85 H fun v86 H =>
    W.indexAddr 1 data_0 j_13'' H fun v87 H =>
    W.put v87 v84 H fun _ H =>
    W.indexAddr 1 data_0 a_1 H fun v88 H =>
    W.put v88 v86 H fun _ H =>
    Q (.tuple #[j_13'', (.bool false)]) H)
   (fun H => W.indexAddr 1 data_0 j_13'' H fun v89 H =>
    W.get v89 H fun v90 H =>
    W.indexAddr 1 data_0 i_12'' H fun v91 H =>
    W.get v91 H fun v92 H =>
    W.indexAddr 1 data_0 i_12'' H fun v93 H =>
    W.put v93 v90 H fun _ H =>
    W.indexAddr 1 data_0 j_13'' H fun v94 H =>
    W.put v94 v92 H fun _ H =>
    W.bin .add i_12'' (.int .i64 1) H fun v95 H =>
    W.bin .sub j_13'' (.int .i64 1) H fun v96 H =>
    I3 (v95, v96, ()) H))
def f105.l4 (Q : Post) (j_13' : Value) (cmp_4 : Value) (data_0 : Value) (a_1 : Value) (I3 : St [12, 13] → Heap → Prop) (I4 : St [12] → Heap → Prop) (i_12'' : Value) (H : Heap) : Prop :=
  W.bin .leq i_12'' j_13' H fun v53 H =>
  W.guarded v53 true (fun H k => k cmp_4 H) H fun v54 H =>
  W.guarded v53 true (fun H k => k data_0 H) H fun v55 H =>
  W.guarded v53 true (fun H k => k i_12'' H) H fun v56 H =>
  W.guarded v53 true (fun H k => W.indexAddr 1 v55 v56 H k) H fun v57 H =>
  W.guarded v53 true (fun H k => W.get v57 H k) H fun v58 H =>
  W.guarded v53 true (fun H k => k data_0 H) H fun v59 H =>
  W.guarded v53 true (fun H k => k a_1 H) H fun v60 H =>
  W.guarded v53 true (fun H k => W.indexAddr 1 v59 v60 H k) H fun v61 H =>
  W.guarded v53 true (fun H k => W.get v61 H k) H fun v62 H =>
  W.guarded v53 true (fun H k => W.callQ Tryz.prog v54 #[v58, v62] H k) H fun v63 H =>
  W.guarded v53 true (fun H k => W.bin .lss v63 (.int .i64 0) H k) H fun v64 H =>
  W.pick v53 v64 (.bool false) H fun v65 H =>
  W.cond v65 H
  (fun H => W.bin .add i_12'' (.int .i64 1) H fun v66 H =>
   I4 (v66, ()) H)
  (fun H => W.loop (S := St [13]) (fun I5 s H => f105.l5 Q i_12'' cmp_4 data_0 a_1 I3 I5 s.1 H) (j_13', ()) H)
def f105.l3 (Q : Post) (cmp_4 : Value) (data_0 : Value) (a_1 : Value) (I3 : St [12, 13] → Heap → Prop) (i_12' : Value) (j_13' : Value) (H : Heap) : Prop :=
  W.loop (S := St [12]) (fun I4 s H => f105.l4 Q j_13' cmp_4 data_0 a_1 I3 I4 s.1 H) (i_12', ()) H
def f105.l2 (Q : Post) (i_12 : Value) (cmp_4 : Value) (data_0 : Value) (a_1 : Value) (I2 : St [13] → Heap → Prop) (j_13 : Value) (H : Heap) : Prop :=
  W.bin .leq i_12 j_13 H fun v23 H =>
  W.guarded v23 true (fun H k => k cmp_4 H) H fun v24 H =>
  W.guarded v23 true (fun H k => k data_0 H) H fun v25 H =>
  W.guarded v23 true (fun H k => k j_13 H) H fun v26 H =>
  W.guarded v23 true (fun H k => W.indexAddr 1 v25 v26 H k) H fun v27 H =>
  W.guarded v23 true (fun H k => W.get v27 H k) H fun v28 H =>
  W.guarded v23 true (fun H k => k data_0 H) H fun v29 H =>
  W.guarded v23 true (fun H k => k a_1 H) H fun v30 H =>
  W.guarded v23 true (fun H k => W.indexAddr 1 v29 v30 H k) H fun v31 H =>
  W.guarded v23 true (fun H k => W.get v31 H k) H fun v32 H =>
  W.guarded v23 true (fun H k => W.callQ Tryz.prog v24 #[v28, v32] H k) H fun v33 H =>
  W.guarded v23 true (fun H k => W.bin .lss v33 (.int .i64 0) H k) H fun v34 H =>
  W.guarded v23 true (fun H k => W.un .not v34 H k) H fun v35 H =>
  W.pick v23 v35 (.bool false) H fun v36 H =>
  W.cond v36 H
  (fun H => W.bin .sub j_13 (.int .i64 1) H fun v37 H =>
   I2 (v37, ()) H)
  (fun H => W.bin .gtr i_12 j_13 H fun v38 H =>
   W.cond v38 H
   (fun H => W.indexAddr 1 data_0 a_1 H fun v39 H =>
    W.get v39 H fun v40 H =>
    W.indexAddr 1 data_0 j_13 H fun v41 H =>
    W.get v41 H fun v42 H =>
    W.indexAddr 1 data_0 j_13 H fun v43 H =>
    W.put v43 v40 H fun _ H =>
    W.indexAddr 1 data_0 a_1 H fun v44 H =>
    W.put v44 v42 H fun _ H =>
    Q (.tuple #[j_13, (.bool true)]) H)
   (fun H => W.indexAddr 1 data_0 j_13 H fun v45 H =>
    W.get v45 H fun v46 H =>
    W.indexAddr 1 data_0 i_12 H fun v47 H =>
    W.get v47 H fun v48 H =>
    W.indexAddr 1 data_0 i_12 H fun v49 H =>
    W.put v49 v46 H fun _ H =>
    W.indexAddr 1 data_0 j_13 H fun v50 H =>
    W.put v50 v48 H fun _ H =>
    W.bin .add i_12 (.int .i64 1) H fun v51 H =>
    W.bin .sub j_13 (.int .i64 1) H fun v52 H =>
    W.loop (S := St [12, 13]) (fun I3 s H => f105.l3 Q cmp_4 data_0 a_1 I3 s.1 s.2.1 H) (v51, v52, ()) H))
def f105.l1 (Q : Post) (v8 : Value) (cmp_4 : Value) (data_0 : Value) (a_1 : Value) (I1 : St [12] → Heap → Prop) (i_12 : Value) (H : Heap) : Prop :=
  W.bin .leq i_12 v8 H fun v9 H =>
  W.guarded v9 true (fun H k => k cmp_4 H) H fun v10 H =>
  W.guarded v9 true (fun H k => k data_0 H) H fun v11 H =>
  W.guarded v9 true (fun H k => k i_12 H) H fun v12 H =>
  W.guarded v9 true (fun H k => W.indexAddr 1 v11 v12 H k) H fun v13 H =>
  W.guarded v9 true (fun H k => W.get v13 H k) H fun v14 H =>
  W.guarded v9 true (fun H k => k data_0 H) H fun v15 H =>
  W.guarded v9 true (fun H k => k a_1 H) H fun v16 H =>
  W.guarded v9 true (fun H k => W.indexAddr 1 v15 v16 H k) H fun v17 H =>
  W.guarded v9 true (fun H k => W.get v17 H k) H fun v18 H =>
  W.guarded v9 true (fun H k => W.callQ Tryz.prog v10 #[v14, v18] H k) H fun v19 H =>
  W.guarded v9 true (fun H k => W.bin .lss v19 (.int .i64 0) H k) H fun v20 H =>
  W.pick v9 v20 (.bool false) H fun v21 H =>
  W.cond v21 H
  (fun H => W.bin .add i_12 (.int .i64 1) H fun v22 H =>
   I1 (v22, ()) H)
  (fun H => W.loop (S := St [13]) (fun I2 s H => f105.l2 Q i_12 cmp_4 data_0 a_1 I2 s.1 H) (v8, ()) H)
def f105.w (Q : Post) (data_0 : Value) (a_1 : Value) (b_2 : Value) (pivot_3 : Value) (cmp_4 : Value) (H : Heap) : Prop :=
  W.indexAddr 1 data_0 pivot_3 H fun v1 H =>
  W.get v1 H fun v2 H =>
  W.indexAddr 1 data_0 a_1 H fun v3 H =>
  W.get v3 H fun v4 H =>
  W.indexAddr 1 data_0 a_1 H fun v5 H =>
  W.put v5 v2 H fun _ H =>
  W.indexAddr 1 data_0 pivot_3 H fun v6 H =>
  W.put v6 v4 H fun _ H =>
  W.bin .add a_1 (.int .i64 1) H fun v7 H =>
  W.bin .sub b_2 (.int .i64 1) H fun v8 H =>
  W.loop (S := St [12]) (fun I1 s H => f105.l1 Q v8 cmp_4 data_0 a_1 I1 s.1 H) (v7, ()) H
theorem f105.enter {Q : Post} {data_0 : Value} {a_1 : Value} {b_2 : Value} {pivot_3 : Value} {cmp_4 : Value} {H : Heap} (h : f105.w Q data_0 a_1 b_2 pivot_3 cmp_4 H) : Runs Tryz.prog 105 #[data_0, a_1, b_2, pivot_3, cmp_4] H Q :=
  fn_enter (ann := [(3, [12]), (5, [13]), (10013020, [12, 13]), (10013014, [12]), (15, [13])]) (by kernel_rfl) Tryz.func105 rfl (by kernel_rfl) h (by kernel_rfl)

/- slices.partitionEqualCmpFunc[[]loop.example/g01343/impl.Frac] -/
def f104.l3 (Q : Post) (i_11' : Value) (cmp_4 : Value) (data_0 : Value) (a_1 : Value) (I1 : St [11, 12] → Heap → Prop) (I3 : St [12] → Heap → Prop) (j_12' : Value) (H : Heap) : Prop :=
  W.bin .leq i_11' j_12' H fun v24 H =>
  W.guarded v24 true (fun H k => k cmp_4 H) H fun v25 H =>
  W.guarded v24 true (fun H k => k data_0 H) H fun v26 H =>
  W.guarded v24 true (fun H k => k a_1 H) H fun v27 H =>
  W.guarded v24 true (fun H k => W.indexAddr 1 v26 v27 H k) H fun v28 H =>
  W.guarded v24 true (fun H k => W.get v28 H k) H fun v29 H =>
  W.guarded v24 true (fun H k => k data_0 H) H fun v30 H =>
  W.guarded v24 true (fun H k => k j_12' H) H fun v31 H =>
  W.guarded v24 true (fun H k => W.indexAddr 1 v30 v31 H k) H fun v32 H =>
  W.guarded v24 true (fun H k => W.get v32 H k) H fun v33 H =>
  W.guarded v24 true (fun H k => W.callQ Tryz.prog v25 #[v29, v33] H k) H fun v34 H =>
  W.guarded v24 true (fun H k => W.bin .lss v34 (.int .i64 0) H k) H fun v35 H =>
  W.pick v24 v35 (.bool false) H fun v36 H =>
  W.cond v36 H
  (fun H => W.bin .sub j_12' (.int .i64 1) H fun v37 H =>
   I3 (v37, ()) H)
  (fun H => W.bin .gtr i_11' j_12' H fun v38 H =>
   W.cond v38 H
   (fun H => Q i_11' H)
   (fun H => W.indexAddr 1 data_0 j_12' H fun v39 H =>
    W.get v39 H fun v40 H =>
    W.indexAddr 1 data_0 i_11' H fun v41 H =>
    W.get v41 H fun v42 H =>
    W.indexAddr 1 data_0 i_11' H fun v43 H =>
    W.put v43 v40 H fun _ H =>
    W.indexAddr 1 data_0 j_12' H fun v44 H =>
    W.put v44 v42 H fun _ H =>
    W.bin .add i_11' (.int .i64 1) H fun v45 H =>
    W.bin .sub j_12' (.int .i64 1) H fun v46 H =>
    I1 (v45, v46, ()) H))
def f104.l2 (Q : Post) (j_12 : Value) (cmp_4 : Value) (data_0 : Value) (a_1 : Value) (I1 : St [11, 12] → Heap → Prop) (I2 : St [11] → Heap → Prop) (i_11' : Value) (H : Heap) : Prop :=
  W.bin .leq i_11' j_12 H fun v9 H =>
  W.guarded v9 true (fun H k => k cmp_4 H) H fun v10 H =>
  W.guarded v9 true (fun H k => k data_0 H) H fun v11 H =>
  W.guarded v9 true (fun H k => k a_1 H) H fun v12 H =>
  W.guarded v9 true (fun H k => W.indexAddr 1 v11 v12 H k) H fun v13 H =>
  W.guarded v9 true (fun H k => W.get v13 H k) H fun v14 H =>
  W.guarded v9 true (fun H k => k data_0 H) H fun v15 H =>
  W.guarded v9 true (fun H k => k i_11' H) H fun v16 H =>
  W.guarded v9 true (fun H k => W.indexAddr 1 v15 v16 H k) H fun v17 H =>
  W.guarded v9 true (fun H k => W.get v17 H k) H fun v18 H =>
  W.guarded v9 true (fun H k => W.callQ Tryz.prog v10 #[v14, v18] H k) H fun v19 H =>
  W.guarded v9 true (fun H k => W.bin .lss v19 (.int .i64 0) H k) H fun v20 H =>
  W.guarded v9 true (fun H k => W.un .not v20 H k) H fun v21 H =>
  W.pick v9 v21 (.bool false) H fun v22 H =>
  W.cond v22 H
  (fun H => W.bin .add i_11' (.int .i64 1) H fun v23 H =>
   I2 (v23, ()) H)
  (fun H => W.loop (S := St [12]) (fun I3 s H => f104.l3 Q i_11' cmp_4 data_0 a_1 I1 I3 s.1 H) (j_12, ()) H)
def f104.l1 (Q : Post) (cmp_4 : Value) (data_0 : Value) (a_1 : Value) (I1 : St [11, 12] → Heap → Prop) (i_11 : Value) (j_12 : Value) (H : Heap) : Prop :=
  W.loop (S := St [11]) (fun I2 s H => f104.l2 Q j_12 cmp_4 data_0 a_1 I1 I2 s.1 H) (i_11, ()) H
def f104.w (Q : Post) (data_0 : Value) (a_1 : Value) (b_2 : Value) (pivot_3 : Value) (cmp_4 : Value) (H : Heap) : Prop :=
  W.indexAddr 1 data_0 pivot_3 H fun v1 H =>
  W.get v1 H fun v2 H =>
  W.indexAddr 1 data_0 a_1 H fun v3 H =>
  W.get v3 H fun v4 H =>
  W.indexAddr 1 data_0 a_1 H fun v5 H =>
  W.put v5 v2 H fun _ H =>
  W.indexAddr 1 data_0 pivot_3 H fun v6 H =>
  W.put v6 v4 H fun _ H =>
  W.bin .add a_1 (.int .i64 1) H fun v7 H =>
  W.bin .sub b_2 (.int .i64 1) H fun v8 H =>
  W.loop (S := St [11, 12]) (fun I1 s H => f104.l1 Q cmp_4 data_0 a_1 I1 s.1 s.2.1 H) (v7, v8, ()) H
theorem f104.enter {Q : Post} {data_0 : Value} {a_1 : Value} {b_2 : Value} {pivot_3 : Value} {cmp_4 : Value} {H : Heap} (h : f104.w Q data_0 a_1 b_2 pivot_3 cmp_4 H) : Runs Tryz.prog 104 #[data_0, a_1, b_2, pivot_3, cmp_4] H Q :=
  fn_enter (ann := [(10003010, [11, 12]), (10003004, [11]), (5, [12])]) (by kernel_rfl) Tryz.func104 rfl (by kernel_rfl) h (by kernel_rfl)


theorem map_swp {n : Nat} {g : Nat → Value} {i j : Nat} (hi : i < n) (hj : j < n) : (((List.range n).map g).set i (g j)).set j (g i) = (List.range n).map (swpF g i j) := by
  apply List.ext_getElem
  · simp
  · intro k h1 h2
    have hk : k < n := by simpa using h2
    rw [List.getElem_set, List.getElem_set]
    simp only [List.getElem_map, List.getElem_range]
    by_cases c1 : j = k
    · subst c1
      rw [if_pos rfl, swpF_r]
    · rw [if_neg c1]
      by_cases c2 : i = k
      · subst c2
        rw [if_pos rfl, swpF_l]
      · rw [if_neg c2, swpF_o (fun e => c2 e.symm) fun e => c1 e.symm]

section
variable {H0 H : Heap} {L : List (Atom H0.next)} {m n : Nat} {v : Value} {tbl : List (Value × List Frac)} {f : Nat → El m} {K Q : Post} {κ : IntKind}

/-- A list that has grown, of heads of lists that are there. -/
def SSt (L : List (Atom H0.next)) (m n : Nat) (v : Value) (tbl : List (Value × List Frac)) (f : Nat → El m) (H : Heap) : Prop :=
  Ab.Loc H0 (.grow Rd.raw 38 v ((List.range n).map fun k => (f k).1.1) :: .view (Rd.bag RFS) [] tbl :: L) H ∧ ∀ k, k < n → (f k).1 ∈ tbl

theorem SSt.to {H' : Heap} (h : SSt L m n v tbl f H) (l : H.Le H') : SSt L m n v tbl f H' := ⟨h.1.to l, h.2⟩

theorem SSt.get {i : Nat} (h : SSt L m n v tbl f H) (hi : i < n) (k : K (f i).1.1 H) : W.indexAddr 1 v (.int κ i) H fun p H => W.get p H K := by
  refine Wl.atRaw (us := (List.range n).map fun k => (f k).1.1) (h.1.rd (cs := [v]) (r := Rd.slice Rd.raw)) (i := i) (by simpa using hi) ?_
  simp only [List.getElem_map, List.getElem_range]
  exact k

theorem SSt.has {i : Nat} (h : SSt L m n v tbl f H) (hi : i < n) : Has RFS H [(f i).1.1] (f i).1.2 := (h.1.rd (cs := []) (r := Rd.bag RFS) (x := tbl)).bag (h.2 i hi)

theorem SSt.lss {i j : Nat} (h : SSt L m n v tbl f H) (hi : i < n) (hj : j < n) (k : ∀ H', SSt L m n v tbl f H' → K (.bool (ltE (f i) (f j))) H') : W.callQ Tryz.prog (.func (.func 24) #[] #[]) #[(f i).1.1, (f j).1.1] H fun c H => W.bin .lss c (.int .i64 0) H K :=
  Wi.callQ (fnQ24 (f i).2 (f j).2 (h.has hi) (h.has hj) fun H' l => ⟨l, Wi.lss (k H' (h.to l))⟩)

theorem SSt.set2 {i j : Nat} (h : SSt L m n v tbl f H) (hi : i < n) (hj : j < n) (k : ∀ H', SSt L m n v tbl (swpF f i j) H' → K undef H') :
    W.indexAddr 1 v (.int .i64 i) H fun p H => W.put p (f j).1.1 H fun _ H => W.indexAddr 1 v (.int .i64 j) H fun p H => W.put p (f i).1.1 H K := by
  have ci := (h.has hi).cell1
  have cj := (h.has hj).cell1
  refine Wl.setRawG (us := (List.range n).map fun k => (f k).1.1) (j := 0) h.1 rfl (by simpa using hi) cj fun H1 h1 => ?_
  have h1 : Ab.Loc H0 (.grow Rd.raw 38 v (((List.range n).map fun k => (f k).1.1).set i (f j).1.1) :: .view (Rd.bag RFS) [] tbl :: L) H1 := h1
  refine Wl.setRawG (us := ((List.range n).map fun k => (f k).1.1).set i (f j).1.1) (j := 0) h1 rfl (by simpa using hj) ci fun H2 h2 => k H2 ⟨?_, fun k hk => ?_⟩
  · have e := map_swp (g := fun k => (f k).1.1) hi hj
    have e2 : ((List.range n).map (swpF (fun k => (f k).1.1) i j)) = (List.range n).map fun k => (swpF f i j k).1.1 := List.map_congr_left fun k _ => by
      unfold swpF
      split
      · rfl
      · split <;> rfl
    have h2 : Ab.Loc H0 (.grow Rd.raw 38 v ((((List.range n).map fun k => (f k).1.1).set i (f j).1.1).set j (f i).1.1) :: .view (Rd.bag RFS) [] tbl :: L) H2 := h2
    rw [e, e2] at h2
    exact h2
  · unfold swpF
    split
    · exact h.2 j hj
    · split
      · exact h.2 i hi
      · exact h.2 k hk

abbrev cmpV : Value := .func (.func 24) #[] #[]

theorem fnQ98 {a b : Nat} (h : SSt L m n v tbl f H) (hb : b ≤ n) (ha : a ≤ n) (hn : n ≤ 1000) (hQ : ∀ H' g, SSt L m n v tbl g H' → Sw a b f g → Srt ltE g a b → Q (.tuple #[]) H') :
    Runs Tryz.prog 98 #[v, .int .i64 (a : Nat), .int .i64 (b : Nat), cmpV] H Q := by
  have o := ltE_swo m
  refine f98.enter ?_
  unfold f98.w
  refine Wi.add (by unfold I64; omega) ?_
  rw [show ((a : Int) + 1) = ((a + 1 : Nat) : Int) by omega]
  refine W.for_rule (b - a) (fun t st H => st = (.int .i64 ((a + 1 + t : Nat) : Int), ()) ∧ ∃ g, SSt L m n v tbl g H ∧ Sw a b f g ∧ Srt ltE g a (a + 1 + t)) ⟨rfl, f, h, .refl, fun i j h1 h2 h3 => by omega⟩ ?_
  rintro t st H J ht ⟨rfl, g, h, hs, hr⟩ hJ
  unfold f98.l1
  refine Wi.lssC (fun hlt => Wi.tru ?_) fun hge => Wi.fls (hQ _ g h hs fun i j h1 h2 h3 => hr i j h1 h2 (by omega))
  have hib : a + 1 + t < b := by omega
  refine W.for_rule (t + 1) (fun s st H => ∃ j : Nat, st = (.int .i64 (j : Nat), ()) ∧ j + s = a + 1 + t ∧ ∃ g, SSt L m n v tbl g H ∧ Sw a b f g ∧ InsI ltE g a (a + 1 + t) j) ⟨a + 1 + t, rfl, by omega, g, h, hs, .start hr⟩ ?_
  rintro s st H J2 hs2 ⟨j, rfl, hj, g, h, hs, hi⟩ hJ2
  unfold f98.l2
  have fin : (j = a ∨ ltE (g j) (g (j - 1)) = false) → ∀ H, SSt L m n v tbl g H → W.bin .add (.int .i64 ((a + 1 + t : Nat) : Int)) (.int .i64 1) H fun v26 H => J (v26, ()) H := fun he H h => by
    refine Wi.add (by unfold I64; omega) (hJ _ _ (by omega) ⟨rfl, g, h, hs, ?_⟩)
    rw [show a + 1 + (t + 1) = (a + 1 + t) + 1 by omega]
    exact hi.done o (by omega) (by omega) he
  refine Wi.gtrC (fun hja => ?_) fun hja => ?_
  rotate_left
  · simp only [gw]
    exact fin (.inl (by omega)) _ h
  have hja : a < j := by omega
  simp only [gw]
  refine h.get (by omega) (Wi.sub (by unfold I64; omega) ?_)
  rw [show ((j : Nat) : Int) - 1 = ((j - 1 : Nat) : Int) by omega]
  refine h.get (i := j - 1) (by omega) (h.lss (i := j) (j := j - 1) (by omega) (by omega) fun H h => ?_)
  cases hl : ltE (g j) (g (j - 1)) with
  | false =>
    simp only [gw]
    exact fin (.inr hl) _ h
  | true =>
    simp only [gw]
    refine Wi.sub (by unfold I64; omega) (Wi.sub (by unfold I64; omega) ?_)
    rw [show ((j : Nat) : Int) - 1 = ((j - 1 : Nat) : Int) by omega]
    refine h.get (i := j - 1) (by omega) (h.get (by omega) (h.set2 (i := j) (j := j - 1) (by omega) (by omega) fun H h => Wi.sub (by unfold I64; omega) ?_))
    rw [show ((j : Nat) : Int) - 1 = ((j - 1 : Nat) : Int) by omega]
    exact hJ2 _ _ (by omega) ⟨j - 1, rfl, by omega, _, h, .step hs (by omega) (by omega) (by omega) (by omega), hi.step o hja (by omega) hl⟩

theorem fnQ140 {lo hi c : Nat} (h : SSt L m n v tbl f H) (hb : c + hi ≤ n) (hlo : lo ≤ hi) (hn : n ≤ 1000) (hp : HpS ltE (fun k => f (c + k)) lo hi lo) (hQ : ∀ H' g, SSt L m n v tbl g H' → Sw (c + lo) (c + hi) f g → Hp ltE (fun k => g (c + k)) lo hi → Q (.tuple #[]) H') :
    Runs Tryz.prog 140 #[v, .int .i64 (lo : Nat), .int .i64 (hi : Nat), .int .i64 (c : Nat), cmpV] H Q := by
  have o := ltE_swo m
  refine f140.enter ?_
  unfold f140.w
  refine W.for_rule (hi + 1) (fun t st H => ∃ r : Nat, st = (.int .i64 (r : Nat), ()) ∧ t ≤ r ∧ lo ≤ r ∧ r ≤ hi ∧ ∃ g, SSt L m n v tbl g H ∧ Sw (c + lo) (c + hi) f g ∧ HpS ltE (fun k => g (c + k)) lo hi r) ⟨lo, rfl, by omega, by omega, hlo, f, h, .refl, hp⟩ ?_
  rintro t st H J ht ⟨r, rfl, htr, hlr, hrh, g, h, hs, hp⟩ hJ
  unfold f140.l1
  refine Wi.mul (by unfold I64; omega) (Wi.add (by unfold I64; omega) ?_)
  rw [show (2 : Int) * (r : Int) + 1 = ((2 * r + 1 : Nat) : Int) by omega]
  refine Wi.geqC (fun hge => Wi.tru (hQ _ g h hs (hp.leaf (by omega)))) fun hlt => Wi.fls ?_
  have hc : 2 * r + 1 < hi := by omega
  -- the greater child
  have go : ∀ (ch : Nat) H, SSt L m n v tbl g H → (ch - 1) / 2 = r → 0 < ch → ch < hi → (∀ d, 0 < d → d < hi → (d - 1) / 2 = r → ltE (g (c + ch)) (g (c + d)) = false) → f140.j1 Q (.int .i64 (c : Nat)) (.int .i64 (r : Nat)) v cmpV J (.int .i64 (ch : Nat)) H := fun ch H h e1 e2 e3 hm => by
    unfold f140.j1
    refine Wi.add (by unfold I64; omega) ?_
    rw [show (c : Int) + (r : Int) = ((c + r : Nat) : Int) by omega]
    refine h.get (i := c + r) (by omega) (Wi.add (by unfold I64; omega) ?_)
    rw [show (c : Int) + (ch : Int) = ((c + ch : Nat) : Int) by omega]
    refine h.get (i := c + ch) (by omega) (h.lss (i := c + r) (j := c + ch) (by omega) (by omega) fun H h => Wi.not ?_)
    cases hl : ltE (g (c + r)) (g (c + ch)) with
    | false => exact Wi.tru (hQ _ g h hs (hp.done o hm hl))
    | true =>
      refine Wi.fls (Wi.add (by unfold I64; omega) (Wi.add (by unfold I64; omega) (Wi.add (by unfold I64; omega) ?_)))
      rw [show (c : Int) + (ch : Int) = ((c + ch : Nat) : Int) by omega, show (c : Int) + (r : Int) = ((c + r : Nat) : Int) by omega]
      refine h.get (i := c + ch) (by omega) (Wi.add (by unfold I64; omega) ?_)
      rw [show (c : Int) + (r : Int) = ((c + r : Nat) : Int) by omega]
      refine h.get (i := c + r) (by omega) (h.set2 (i := c + r) (j := c + ch) (by omega) (by omega) fun H h => ?_)
      refine hJ _ _ (by omega) ⟨ch, rfl, by omega, by omega, by omega, _, h, .step hs (by omega) (by omega) (by omega) (by omega), ?_⟩
      rw [swpF_shift]
      exact hp.step o hlr e1 e2 e3 hm hl
  refine Wi.add (by unfold I64; omega) ?_
  rw [show ((2 * r + 1 : Nat) : Int) + 1 = ((2 * r + 2 : Nat) : Int) by omega]
  refine Wi.lssC (fun h2 => ?_) fun h2 => ?_
  rotate_left
  · simp only [gw]
    refine go (2 * r + 1) _ h (by omega) (by omega) hc fun d d1 d2 d3 => ?_
    rw [show d = 2 * r + 1 by omega]
    exact o.irr _
  simp only [gw]
  refine Wi.add (by unfold I64; omega) ?_
  rw [show (c : Int) + ((2 * r + 1 : Nat) : Int) = ((c + (2 * r + 1) : Nat) : Int) by omega]
  refine h.get (i := c + (2 * r + 1)) (by omega) (Wi.add (by unfold I64; omega) (Wi.add (by unfold I64; omega) ?_))
  rw [show (c : Int) + ((2 * r + 1 : Nat) : Int) + 1 = ((c + (2 * r + 2) : Nat) : Int) by omega]
  refine h.get (i := c + (2 * r + 2)) (by omega) (h.lss (i := c + (2 * r + 1)) (j := c + (2 * r + 2)) (by omega) (by omega) fun H h => ?_)
  cases hl : ltE (g (c + (2 * r + 1))) (g (c + (2 * r + 2))) with
  | false =>
    simp only [gw]
    refine go (2 * r + 1) _ h (by omega) (by omega) hc fun d d1 d2 d3 => ?_
    by_cases e : d = 2 * r + 1
    · subst e; exact o.irr _
    · rw [show d = 2 * r + 2 by omega]; exact hl
  | true =>
    simp only [gw]
    refine Wi.add (by unfold I64; omega) ?_
    rw [show ((2 * r + 1 : Nat) : Int) + 1 = ((2 * r + 2 : Nat) : Int) by omega]
    refine go (2 * r + 2) _ h (by omega) (by omega) (by omega) fun d d1 d2 d3 => ?_
    by_cases e : d = 2 * r + 2
    · subst e; exact o.irr _
    · rw [show d = 2 * r + 1 by omega]; exact o.asym hl

theorem fnQ99 {a b : Nat} (h : SSt L m n v tbl f H) (hab : a < b) (hb : b ≤ n) (hn : n ≤ 1000) (hQ : ∀ H' g, SSt L m n v tbl g H' → Sw a b f g → Srt ltE g a b → Q (.tuple #[]) H') :
    Runs Tryz.prog 99 #[v, .int .i64 (a : Nat), .int .i64 (b : Nat), cmpV] H Q := by
  have o := ltE_swo m
  refine f99.enter ?_
  unfold f99.w
  refine Wi.sub (by unfold I64; omega) ?_
  rw [show (b : Int) - (a : Int) = ((b - a : Nat) : Int) by omega]
  obtain ⟨hi, hhi⟩ : ∃ hi, hi = b - a := ⟨_, rfl⟩
  rw [← hhi]
  refine Wi.sub (by unfold I64; omega) ?_
  rw [show (hi : Int) - 1 = ((hi - 1 : Nat) : Int) by omega]
  have e2 : ((hi - 1 : Nat) : Int).tdiv 2 = (((hi - 1) / 2 : Nat) : Int) := rfl
  refine Wi.quo (by decide) (by rw [e2]; unfold I64; omega) ?_
  rw [e2]
  refine W.for_rule ((hi - 1) / 2 + 1) (fun t st H => ∃ i1 : Nat, st = (.int .i64 ((i1 : Int) - 1), ()) ∧ i1 + t = (hi - 1) / 2 + 1 ∧ ∃ g, SSt L m n v tbl g H ∧ Sw a b f g ∧ Hp ltE (fun k => g (a + k)) i1 hi) ⟨(hi - 1) / 2 + 1, by congr 2; omega, by omega, f, h, .refl, fun c c1 c2 c3 => by omega⟩ ?_
  rintro t st H J ht ⟨i1, rfl, hit, g, h, hs, hp⟩ hJ
  unfold f99.l1
  refine Wi.geqC (fun hge => Wi.tru ?_) fun hlt => Wi.fls ?_
  · obtain ⟨i, rfl⟩ : ∃ i, i1 = i + 1 := ⟨i1 - 1, by omega⟩
    rw [show (((i + 1 : Nat) : Int) - 1) = (i : Int) by omega]
    refine Wi.call (fnQ140 (lo := i) (hi := hi) (c := a) h (by omega) (by omega) hn hp.sift fun H g2 h hs2 hp2 => ?_)
    refine Wi.sub (by unfold I64; omega) (hJ _ _ (by omega) ⟨i, rfl, by omega, g2, h, hs.trans (hs2.mono (by omega) (by omega)), hp2⟩)
  have h0 : i1 = 0 := by omega
  subst h0
  refine Wi.sub (by unfold I64; omega) ?_
  refine W.for_rule hi (fun t st H => ∃ i1 : Nat, st = (.int .i64 ((i1 : Int) - 1), ()) ∧ i1 + t = hi ∧ ∃ g, SSt L m n v tbl g H ∧ Sw a b f g ∧ Hp ltE (fun k => g (a + k)) 0 i1 ∧ Tail ltE (fun k => g (a + k)) i1 hi) ⟨hi, rfl, by omega, g, h, hs, hp, fun x y h1 h2 h3 => by omega⟩ ?_
  rintro t2 st H J2 ht2 ⟨i1, rfl, hit, g, h, hs, hp, hta⟩ hJ2
  unfold f99.l2
  refine Wi.geqC (fun hge => Wi.tru ?_) fun hlt => Wi.fls ?_
  · obtain ⟨i, rfl⟩ : ∃ i, i1 = i + 1 := ⟨i1 - 1, by omega⟩
    rw [show (((i + 1 : Nat) : Int) - 1) = (i : Int) by omega]
    refine Wi.add (by unfold I64; omega) (Wi.add (by unfold I64; omega) ?_)
    rw [show (a : Int) + (i : Int) = ((a + i : Nat) : Int) by omega]
    refine h.get (i := a + i) (by omega) (h.get (i := a) (by omega) (h.set2 (i := a) (j := a + i) (by omega) (by omega) fun H h => ?_))
    have e : (fun k => swpF g a (a + i) (a + k)) = swpF (fun k => g (a + k)) 0 i := swpF_shift g a 0 i
    refine Wi.call (fnQ140 (lo := 0) (hi := i) (c := a) h (by omega) (by omega) hn (by rw [e]; exact hp.pop) fun H g2 h hs2 hp2 => ?_)
    refine Wi.sub (by unfold I64; omega) (hJ2 _ _ (by omega) ⟨i, rfl, by omega, g2, h, (Sw.step hs (by omega) (by omega) (by omega) (by omega)).trans (hs2.mono (by omega) (by omega)), hp2, ?_⟩)
    have hs3 := hs2.shift
    rw [e] at hs3
    exact hta.pop o hp (by omega) hs3
  · have h0 : i1 = 0 := by omega
    subst h0
    refine hQ _ g h hs fun i j h1 h2 h3 => ?_
    have := hta (i - a) (j - a) (by omega) (by omega) (by omega)
    simp only at this
    rw [show a + (i - a) = i by omega, show a + (j - a) = j by omega] at this
    exact this

/-- What a partition comes to. -/
def PartO (m : Nat) (g : Nat → El m) (a b mid : Nat) : Prop := (∀ k, a ≤ k → k < mid → ltE (g k) (g mid) = true) ∧ ∀ k, mid < k → k < b → ltE (g k) (g mid) = false
def PartI (m : Nat) (g : Nat → El m) (a b i j : Nat) : Prop := (∀ k, a + 1 ≤ k → k < i → ltE (g k) (g a) = true) ∧ ∀ k, j < k → k < b → ltE (g k) (g a) = false

theorem PartI.fin {g : Nat → El m} {a b j : Nat} (h : PartI m g a b (j + 1) j) (ha : a ≤ j) : PartO m (swpF g j a) a b j := by
  refine ⟨fun k h1 h2 => ?_, fun k h1 h2 => ?_⟩
  · rw [swpF_l]
    by_cases e : k = a
    · subst e
      rw [swpF_r]
      exact h.1 j (by omega) (by omega)
    · rw [swpF_o (by omega) e]
      exact h.1 k (by omega) (by omega)
  · rw [swpF_l, swpF_o (by omega) (by omega)]
    exact h.2 k h1 h2

theorem PartI.swp {g : Nat → El m} {a b i j : Nat} (h : PartI m g a b i j) (hi : a + 1 ≤ i) (hij : i < j) (h1 : ltE (g j) (g a) = true) (h2 : ltE (g i) (g a) = false) : PartI m (swpF g i j) a b (i + 1) (j - 1) := by
  refine ⟨fun k k1 k2 => ?_, fun k k1 k2 => ?_⟩
  · rw [swpF_o (k := a) (by omega) (by omega)]
    by_cases e : k = i
    · subst e; rw [swpF_l]; exact h1
    · rw [swpF_o e (by omega)]; exact h.1 k k1 (by omega)
  · rw [swpF_o (k := a) (by omega) (by omega)]
    by_cases e : k = j
    · subst e; rw [swpF_r]; exact h2
    · rw [swpF_o (by omega) e]; exact h.2 k (by omega) k2

/-- Both searches, the second ones. -/
theorem part_l3 {a b i j : Nat} (h : SSt L m n v tbl f H) (hb : b ≤ n) (hn : n ≤ 1000) {F : Nat → El m} (hs : Sw a b F f) (h1 : a + 1 ≤ i) (h2 : i ≤ j + 1) (h3 : j < b) (h4 : a ≤ j) (hp : PartI m f a b i j)
    (hQ : ∀ H' g mid t, SSt L m n v tbl g H' → a ≤ mid → mid < b → Sw a b F g → PartO m g a b mid → Q (.tuple #[.int .i64 (mid : Nat), .bool t]) H') :
    W.loop (S := St [12, 13]) (fun I3 s H => f105.l3 Q cmpV v (.int .i64 (a : Nat)) I3 s.1 s.2.1 H) (.int .i64 (i : Nat), .int .i64 (j : Nat), ()) H := by
  refine W.for_rule n (fun t st H => ∃ (i j : Nat) (g : Nat → El m), st = (.int .i64 (i : Nat), .int .i64 (j : Nat), ()) ∧ SSt L m n v tbl g H ∧ Sw a b F g ∧ a + 1 + t ≤ i ∧ i ≤ j + 1 ∧ j < b ∧ a ≤ j ∧ PartI m g a b i j) ⟨i, j, f, rfl, h, hs, h1, h2, h3, h4, hp⟩ ?_
  rintro t st H J ht ⟨i, j, g, rfl, h, hs, h1, h2, h3, h4, hp⟩ hJ
  unfold f105.l3
  refine W.for_rule n (fun s st H => ∃ i' : Nat, st = (.int .i64 (i' : Nat), ()) ∧ i + s = i' ∧ i' ≤ j + 1 ∧ SSt L m n v tbl g H ∧ PartI m g a b i' j) ⟨i, rfl, rfl, h2, h, hp⟩ ?_
  rintro s st H J4 hs4 ⟨i', rfl, hi', h2', h, hp⟩ hJ4
  unfold f105.l4
  have nxt : (j < i' ∨ ltE (g i') (g a) = false) → ∀ H, SSt L m n v tbl g H → W.loop (S := St [13]) (fun I5 s H => f105.l5 Q (.int .i64 (i' : Nat)) cmpV v (.int .i64 (a : Nat)) J I5 s.1 H) (.int .i64 (j : Nat), ()) H := fun he H h => by
    refine W.for_rule n (fun s st H => ∃ j' : Nat, st = (.int .i64 (j' : Nat), ()) ∧ j' + s = j ∧ i' ≤ j' + 1 ∧ a ≤ j' ∧ SSt L m n v tbl g H ∧ PartI m g a b i' j' ∧ (j' < i' ∨ ltE (g i') (g a) = false)) ⟨j, rfl, rfl, h2', h4, h, hp, he⟩ ?_
    rintro s st H J5 hs5 ⟨j', rfl, hj', h2'', h4', h, hp, he⟩ hJ5
    unfold f105.l5
    refine Wi.leqC (fun hle => ?_) fun hle => ?_
    · have hle : i' ≤ j' := by omega
      simp only [gw]
      refine h.get (i := j') (by omega) (h.get (i := a) (by omega) (h.lss (i := j') (j := a) (by omega) (by omega) fun H h => ?_))
      cases hl : ltE (g j') (g a) with
      | false =>
        simp only [gw]
        refine Wi.sub (by unfold I64; omega) ?_
        rw [show ((j' : Nat) : Int) - 1 = ((j' - 1 : Nat) : Int) by omega]
        refine hJ5 _ _ (by omega) ⟨j' - 1, rfl, by omega, by omega, by omega, h, ⟨hp.1, fun k k1 k2 => ?_⟩, he.imp (fun g => by omega) id⟩
        by_cases e : k = j'
        · subst e; exact hl
        · exact hp.2 k (by omega) k2
      | true =>
        simp only [gw]
        refine Wi.gtrC (fun g => absurd g (by omega)) fun _ => Wi.fls ?_
        have hne : ltE (g i') (g a) = false := he.resolve_left (by omega)
        have hlt : i' < j' := by
          by_cases e : i' = j'
          · subst e; rw [hl] at hne; cases hne
          · omega
        refine h.get (i := j') (by omega) (h.get (i := i') (by omega) (h.set2 (i := i') (j := j') (by omega) (by omega) fun H h => Wi.add (by unfold I64; omega) (Wi.sub (by unfold I64; omega) ?_)))
        rw [show ((j' : Nat) : Int) - 1 = ((j' - 1 : Nat) : Int) by omega]
        exact hJ _ _ (by omega) ⟨i' + 1, j' - 1, _, rfl, h, .step hs (by omega) (by omega) (by omega) (by omega), by omega, by omega, by omega, by omega, hp.swp (by omega) hlt hl hne⟩
    · simp only [gw]
      refine Wi.gtrC (fun _ => Wi.tru ?_) fun g => absurd (by omega) g
      have e : i' = j' + 1 := by omega
      subst e
      refine h.get (i := a) (by omega) (h.get (i := j') (by omega) (h.set2 (i := j') (j := a) (by omega) (by omega) fun H h => ?_))
      exact hQ _ _ j' _ h h4' (by omega) (.step hs (by omega) (by omega) (by omega) (by omega)) (hp.fin h4')
  refine Wi.leqC (fun hle => ?_) fun hle => ?_
  · have hle : i' ≤ j := by omega
    simp only [gw]
    refine h.get (i := i') (by omega) (h.get (i := a) (by omega) (h.lss (i := i') (j := a) (by omega) (by omega) fun H h => ?_))
    cases hl : ltE (g i') (g a) with
    | true =>
      simp only [gw]
      refine Wi.add (by unfold I64; omega) (hJ4 _ _ (by omega) ⟨i' + 1, rfl, by omega, by omega, h, ⟨fun k k1 k2 => ?_, hp.2⟩⟩)
      by_cases e : k = i'
      · subst e; exact hl
      · exact hp.1 k k1 (by omega)
    | false =>
      simp only [gw]
      exact nxt (.inr hl) _ h
  · simp only [gw]
    exact nxt (.inl (by omega)) _ h

theorem fnQ105 {a b p : Nat} (h : SSt L m n v tbl f H) (hab : a + 1 < b) (hb : b ≤ n) (hn : n ≤ 1000) (hp1 : a ≤ p) (hp2 : p < b)
    (hQ : ∀ H' g mid t, SSt L m n v tbl g H' → a ≤ mid → mid < b → Sw a b f g → PartO m g a b mid → Q (.tuple #[.int .i64 (mid : Nat), .bool t]) H') :
    Runs Tryz.prog 105 #[v, .int .i64 (a : Nat), .int .i64 (b : Nat), .int .i64 (p : Nat), cmpV] H Q := by
  refine f105.enter ?_
  unfold f105.w
  refine h.get (i := p) (by omega) (h.get (i := a) (by omega) (h.set2 (i := a) (j := p) (by omega) (by omega) fun H h => ?_))
  have hs : Sw a b f (swpF f a p) := .step .refl (by omega) (by omega) hp1 hp2
  generalize swpF f a p = g at h hs
  refine Wi.add (by unfold I64; omega) (Wi.sub (by unfold I64; omega) ?_)
  rw [show (a : Int) + 1 = ((a + 1 : Nat) : Int) by omega, show (b : Int) - 1 = ((b - 1 : Nat) : Int) by omega]
  obtain ⟨j, hj⟩ : ∃ j, j = b - 1 := ⟨_, rfl⟩
  rw [← hj]
  have hp0 : PartI m g a b (a + 1) j := ⟨fun k k1 k2 => by omega, fun k k1 k2 => by omega⟩
  refine W.for_rule n (fun s st H => ∃ i' : Nat, st = (.int .i64 (i' : Nat), ()) ∧ a + 1 + s = i' ∧ i' ≤ j + 1 ∧ SSt L m n v tbl g H ∧ PartI m g a b i' j) ⟨a + 1, rfl, rfl, by omega, h, hp0⟩ ?_
  rintro s st H J4 hs4 ⟨i', rfl, hi', h2', h, hp⟩ hJ4
  unfold f105.l1
  have nxt : (j < i' ∨ ltE (g i') (g a) = false) → ∀ H, SSt L m n v tbl g H → W.loop (S := St [13]) (fun I5 s H => f105.l2 Q (.int .i64 (i' : Nat)) cmpV v (.int .i64 (a : Nat)) I5 s.1 H) (.int .i64 (j : Nat), ()) H := fun he H h => by
    refine W.for_rule n (fun s st H => ∃ j' : Nat, st = (.int .i64 (j' : Nat), ()) ∧ j' + s = j ∧ i' ≤ j' + 1 ∧ a ≤ j' ∧ SSt L m n v tbl g H ∧ PartI m g a b i' j' ∧ (j' < i' ∨ ltE (g i') (g a) = false)) ⟨j, rfl, rfl, h2', by omega, h, hp, he⟩ ?_
    rintro s st H J5 hs5 ⟨j', rfl, hj', h2'', h4', h, hp, he⟩ hJ5
    unfold f105.l2
    refine Wi.leqC (fun hle => ?_) fun hle => ?_
    · have hle : i' ≤ j' := by omega
      simp only [gw]
      refine h.get (i := j') (by omega) (h.get (i := a) (by omega) (h.lss (i := j') (j := a) (by omega) (by omega) fun H h => ?_))
      cases hl : ltE (g j') (g a) with
      | false =>
        simp only [gw]
        refine Wi.sub (by unfold I64; omega) ?_
        rw [show ((j' : Nat) : Int) - 1 = ((j' - 1 : Nat) : Int) by omega]
        refine hJ5 _ _ (by omega) ⟨j' - 1, rfl, by omega, by omega, by omega, h, ⟨hp.1, fun k k1 k2 => ?_⟩, he.imp (fun g => by omega) id⟩
        by_cases e : k = j'
        · subst e; exact hl
        · exact hp.2 k (by omega) k2
      | true =>
        simp only [gw]
        refine Wi.gtrC (fun g => absurd g (by omega)) fun _ => Wi.fls ?_
        have hne : ltE (g i') (g a) = false := he.resolve_left (by omega)
        have hlt : i' < j' := by
          by_cases e : i' = j'
          · subst e; rw [hl] at hne; cases hne
          · omega
        refine h.get (i := j') (by omega) (h.get (i := i') (by omega) (h.set2 (i := i') (j := j') (by omega) (by omega) fun H h => Wi.add (by unfold I64; omega) (Wi.sub (by unfold I64; omega) ?_)))
        rw [show ((j' : Nat) : Int) - 1 = ((j' - 1 : Nat) : Int) by omega, show (i' : Int) + 1 = ((i' + 1 : Nat) : Int) by omega]
        exact part_l3 h hb hn (.step hs (by omega) (by omega) (by omega) (by omega)) (by omega) (by omega) (by omega) (by omega) (hp.swp (by omega) hlt hl hne) hQ
    · simp only [gw]
      refine Wi.gtrC (fun _ => Wi.tru ?_) fun g => absurd (by omega) g
      have e : i' = j' + 1 := by omega
      subst e
      refine h.get (i := a) (by omega) (h.get (i := j') (by omega) (h.set2 (i := j') (j := a) (by omega) (by omega) fun H h => ?_))
      exact hQ _ _ j' _ h h4' (by omega) (.step hs (by omega) (by omega) (by omega) (by omega)) (hp.fin h4')
  refine Wi.leqC (fun hle => ?_) fun hle => ?_
  · have hle : i' ≤ j := by omega
    simp only [gw]
    refine h.get (i := i') (by omega) (h.get (i := a) (by omega) (h.lss (i := i') (j := a) (by omega) (by omega) fun H h => ?_))
    cases hl : ltE (g i') (g a) with
    | true =>
      simp only [gw]
      refine Wi.add (by unfold I64; omega) (hJ4 _ _ (by omega) ⟨i' + 1, rfl, by omega, by omega, h, ⟨fun k k1 k2 => ?_, hp.2⟩⟩)
      by_cases e : k = i'
      · subst e; exact hl
      · exact hp.1 k k1 (by omega)
    | false =>
      simp only [gw]
      exact nxt (.inr hl) _ h
  · simp only [gw]
    exact nxt (.inl (by omega)) _ h

def PartE (m : Nat) (g : Nat → El m) (a b i j : Nat) : Prop := (∀ k, a + 1 ≤ k → k < i → ltE (g a) (g k) = false) ∧ ∀ k, j < k → k < b → ltE (g a) (g k) = true

theorem PartE.swp {g : Nat → El m} {a b i j : Nat} (h : PartE m g a b i j) (hi : a + 1 ≤ i) (hij : i < j) (h1 : ltE (g a) (g j) = false) (h2 : ltE (g a) (g i) = true) : PartE m (swpF g i j) a b (i + 1) (j - 1) := by
  refine ⟨fun k k1 k2 => ?_, fun k k1 k2 => ?_⟩
  · rw [swpF_o (k := a) (by omega) (by omega)]
    by_cases e : k = i
    · subst e; rw [swpF_l]; exact h1
    · rw [swpF_o e (by omega)]; exact h.1 k k1 (by omega)
  · rw [swpF_o (k := a) (by omega) (by omega)]
    by_cases e : k = j
    · subst e; rw [swpF_r]; exact h2
    · rw [swpF_o (by omega) e]; exact h.2 k (by omega) k2

theorem fnQ104 {a b p : Nat} (h : SSt L m n v tbl f H) (hab : a + 1 < b) (hb : b ≤ n) (hn : n ≤ 1000) (hp1 : a ≤ p) (hp2 : p < b)
    (hQ : ∀ H' g mid, SSt L m n v tbl g H' → a < mid → mid ≤ b → Sw a b f g → g a = f p → PartE m g a b mid (mid - 1) → Q (.int .i64 (mid : Nat)) H') :
    Runs Tryz.prog 104 #[v, .int .i64 (a : Nat), .int .i64 (b : Nat), .int .i64 (p : Nat), cmpV] H Q := by
  refine f104.enter ?_
  unfold f104.w
  refine h.get (i := p) (by omega) (h.get (i := a) (by omega) (h.set2 (i := a) (j := p) (by omega) (by omega) fun H h => ?_))
  have hs : Sw a b f (swpF f a p) := .step .refl (by omega) (by omega) hp1 hp2
  have hga : swpF f a p a = f p := swpF_l _ _ _
  generalize swpF f a p = g0 at h hs hga
  refine Wi.add (by unfold I64; omega) (Wi.sub (by unfold I64; omega) ?_)
  rw [show (a : Int) + 1 = ((a + 1 : Nat) : Int) by omega, show (b : Int) - 1 = ((b - 1 : Nat) : Int) by omega]
  refine W.for_rule n (fun t st H => ∃ (i j : Nat) (g : Nat → El m), st = (.int .i64 (i : Nat), .int .i64 (j : Nat), ()) ∧ SSt L m n v tbl g H ∧ Sw a b f g ∧ g a = f p ∧ a + 1 + t ≤ i ∧ i ≤ j + 1 ∧ j < b ∧ a ≤ j ∧ PartE m g a b i j) ⟨a + 1, b - 1, g0, rfl, h, hs, hga, by omega, by omega, by omega, by omega, ⟨fun k k1 k2 => by omega, fun k k1 k2 => by omega⟩⟩ ?_
  rintro t st H J ht ⟨i, j, g, rfl, h, hs, hga, h1, h2, h3, h4, hp⟩ hJ
  unfold f104.l1
  refine W.for_rule n (fun s st H => ∃ i' : Nat, st = (.int .i64 (i' : Nat), ()) ∧ i + s = i' ∧ i' ≤ j + 1 ∧ SSt L m n v tbl g H ∧ PartE m g a b i' j) ⟨i, rfl, rfl, h2, h, hp⟩ ?_
  rintro s st H J4 hs4 ⟨i', rfl, hi', h2', h, hp⟩ hJ4
  unfold f104.l2
  have nxt : (j < i' ∨ ltE (g a) (g i') = true) → ∀ H, SSt L m n v tbl g H → W.loop (S := St [12]) (fun I5 s H => f104.l3 Q (.int .i64 (i' : Nat)) cmpV v (.int .i64 (a : Nat)) J I5 s.1 H) (.int .i64 (j : Nat), ()) H := fun he H h => by
    refine W.for_rule n (fun s st H => ∃ j' : Nat, st = (.int .i64 (j' : Nat), ()) ∧ j' + s = j ∧ i' ≤ j' + 1 ∧ a ≤ j' ∧ SSt L m n v tbl g H ∧ PartE m g a b i' j' ∧ (j' < i' ∨ ltE (g a) (g i') = true)) ⟨j, rfl, rfl, h2', h4, h, hp, he⟩ ?_
    rintro s st H J5 hs5 ⟨j', rfl, hj', h2'', h4', h, hp, he⟩ hJ5
    unfold f104.l3
    refine Wi.leqC (fun hle => ?_) fun hle => ?_
    · have hle : i' ≤ j' := by omega
      simp only [gw]
      refine h.get (i := a) (by omega) (h.get (i := j') (by omega) (h.lss (i := a) (j := j') (by omega) (by omega) fun H h => ?_))
      cases hl : ltE (g a) (g j') with
      | true =>
        simp only [gw]
        refine Wi.sub (by unfold I64; omega) ?_
        rw [show ((j' : Nat) : Int) - 1 = ((j' - 1 : Nat) : Int) by omega]
        refine hJ5 _ _ (by omega) ⟨j' - 1, rfl, by omega, by omega, by omega, h, ⟨hp.1, fun k k1 k2 => ?_⟩, he.imp (fun g => by omega) id⟩
        by_cases e : k = j'
        · subst e; exact hl
        · exact hp.2 k (by omega) k2
      | false =>
        simp only [gw]
        refine Wi.gtrC (fun g => absurd g (by omega)) fun _ => Wi.fls ?_
        have hne : ltE (g a) (g i') = true := he.resolve_left (by omega)
        have hlt : i' < j' := by
          by_cases e : i' = j'
          · subst e; rw [hl] at hne; cases hne
          · omega
        refine h.get (i := j') (by omega) (h.get (i := i') (by omega) (h.set2 (i := i') (j := j') (by omega) (by omega) fun H h => Wi.add (by unfold I64; omega) (Wi.sub (by unfold I64; omega) ?_)))
        rw [show ((j' : Nat) : Int) - 1 = ((j' - 1 : Nat) : Int) by omega]
        exact hJ _ _ (by omega) ⟨i' + 1, j' - 1, _, rfl, h, .step hs (by omega) (by omega) (by omega) (by omega), by rw [swpF_o (by omega) (by omega)]; exact hga, by omega, by omega, by omega, by omega, hp.swp (by omega) hlt hl hne⟩
    · simp only [gw]
      refine Wi.gtrC (fun _ => Wi.tru ?_) fun g => absurd (by omega) g
      have e : i' = j' + 1 := by omega
      subst e
      exact hQ _ _ (j' + 1) h (by omega) (by omega) hs hga hp
  refine Wi.leqC (fun hle => ?_) fun hle => ?_
  · have hle : i' ≤ j := by omega
    simp only [gw]
    refine h.get (i := a) (by omega) (h.get (i := i') (by omega) (h.lss (i := a) (j := i') (by omega) (by omega) fun H h => ?_))
    cases hl : ltE (g a) (g i') with
    | false =>
      simp only [gw]
      refine Wi.add (by unfold I64; omega) (hJ4 _ _ (by omega) ⟨i' + 1, rfl, by omega, by omega, h, ⟨fun k k1 k2 => ?_, hp.2⟩⟩)
      by_cases e : k = i'
      · subst e; exact hl
      · exact hp.1 k k1 (by omega)
    | true =>
      simp only [gw]
      exact nxt (.inr hl) _ h
  · simp only [gw]
    exact nxt (.inl (by omega)) _ h

end
end Go.Proofs.YtdmgomeogedjgaaGreat
