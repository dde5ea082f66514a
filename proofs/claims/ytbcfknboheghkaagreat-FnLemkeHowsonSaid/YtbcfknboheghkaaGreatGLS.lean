/- One more of a range. No condition. -/
import Derived.Test.YtbcfknboheghkaaGreatGAA
import Derived.Test.YtbcfknboheghkaaGreatGLI
import Derived.Test.YtbcfknboheghkaaGreatGBB
import Derived.Test.YtbcfknboheghkaaGreatGGM
import Derived.Test.YtbcfknboheghkaaGreatGRC
namespace Go.Proofs.YtbcfknboheghkaaGreat
open Go.Ab

theorem range_push {α : Type} {k : Nat} {f : Nat → α} {x : α} (h : f k = x) : (List.range k).map f ++ [x] = (List.range (k + 1)).map f := by
  rw [List.range_succ, List.map_append]
  simp [h]

end Go.Proofs.YtbcfknboheghkaaGreat
/-! Contracts of the reference's tables. No condition. -/
namespace Go.Proofs.YtbcfknboheghkaaGreat
open Go.Ab

/- loop.example/g01343/spec.l05Begin -/
def f60.j1 (Q : Post) (k_9 : Value) (I2 : St [8, 9] → Heap → Prop) (row_8' : Value) (H : Heap) : Prop :=
  W.bin .add k_9 (.int .i64 1) H fun v14 H =>
  I2 (row_8', v14, ()) H
def f60.j2 (Q : Post) (v7 : Value) (v1 : Value) (i_7 : Value) (I1 : St [7] → Heap → Prop) (row_8''' : Value) (H : Heap) : Prop :=
  W.fieldAddr 0 v7 H fun v35 H =>
  W.get v35 H fun v36 H =>
  W.fieldAddr 1 v1 H fun v37 H =>
  W.get v37 H fun v38 H =>
  W.indexAddr 1 v38 i_7 H fun v39 H =>
  W.get v39 H fun v40 H =>
  W.lit 1 [(.int .i64 0)] 2 [(0, 1, v40)] H fun v41 H =>
  W.append 1 2 row_8''' v41 H fun v42 H =>
  W.chk (fun H k => W.get v35 H k) v36 H (W.lit 1 [(.slice none 0 0)] 35 [(0, 1, v42)] H fun v43 H =>
  W.append 1 35 v36 v43 H fun v44 H =>
  W.fieldAddr 0 v7 H fun v45 H =>
  W.put v45 v44 H fun _ H =>
  W.fieldAddr 2 v7 H fun v46 H =>
  W.get v46 H fun v47 H =>
  W.lit 1 [(.int .i64 0)] 2 [(0, 1, i_7)] H fun v48 H =>
  W.append 1 2 v47 v48 H fun v49 H =>
  W.fieldAddr 2 v7 H fun v50 H =>
  W.put v50 v49 H fun _ H =>
  W.bin .add i_7 (.int .i64 1) H fun v51 H =>
  I1 (v51, ()) H)
def f60.l3 (Q : Post) (v6 : Value) (v1 : Value) (i_7 : Value) (cover_1 : Value) (v7 : Value) (I1 : St [7] → Heap → Prop) (I3 : St [8, 10] → Heap → Prop) (row_8'' : Value) (k_10 : Value) (H : Heap) : Prop :=
  W.bin .lss k_10 v6 H fun v17 H =>
  W.cond v17 H
  (fun H => W.fieldAddr 0 v1 H fun v18 H =>
   W.get v18 H fun v19 H =>
   W.indexAddr 1 v19 i_7 H fun v20 H =>
   W.get v20 H fun v21 H =>
   W.indexAddr 1 v21 k_10 H fun v22 H =>
   W.get v22 H fun v23 H =>
   W.un .neg v23 H fun v24 H =>
   W.lit 1 [(.int .i64 0)] 2 [(0, 1, v24)] H fun v25 H =>
   W.append 1 2 row_8'' v25 H fun v26 H =>
   W.bin .add k_10 (.int .i64 1) H fun v27 H =>
   I3 (v26, v27, ()) H)
  (fun H => W.len cover_1 H fun v28 H =>
   W.bin .gtr v28 (.int .i64 0) H fun v29 H =>
   W.cond v29 H
   (fun H => W.indexAddr 1 cover_1 i_7 H fun v30 H =>
    W.get v30 H fun v31 H =>
    W.un .neg v31 H fun v32 H =>
    W.lit 1 [(.int .i64 0)] 2 [(0, 1, v32)] H fun v33 H =>
    W.append 1 2 row_8'' v33 H fun v34 H =>
    f60.j2 Q v7 v1 i_7 I1 v34 H)
   (fun H => f60.j2 Q v7 v1 i_7 I1 row_8'' H))
def f60.l2 (Q : Post) (v6 : Value) (i_7 : Value) (v1 : Value) (cover_1 : Value) (v7 : Value) (I1 : St [7] → Heap → Prop) (I2 : St [8, 9] → Heap → Prop) (row_8 : Value) (k_9 : Value) (H : Heap) : Prop :=
  W.bin .lss k_9 v6 H fun v10 H =>
  W.cond v10 H
  (fun H => W.bin .eql k_9 i_7 H fun v11 H =>
   W.cond v11 H
   (fun H => W.lit 1 [(.int .i64 0)] 2 [(0, 1, (.int .i64 1))] H fun v12 H =>
    W.append 1 2 row_8 v12 H fun v13 H =>
    f60.j1 Q k_9 I2 v13 H)
   (fun H => W.lit 1 [(.int .i64 0)] 2 [(0, 1, (.int .i64 0))] H fun v15 H =>
    W.append 1 2 row_8 v15 H fun v16 H =>
    f60.j1 Q k_9 I2 v16 H))
  (fun H => W.loop (S := St [8, 10]) (fun I3 s H => f60.l3 Q v6 v1 i_7 cover_1 v7 I1 I3 s.1 s.2.1 H) (row_8, (.int .i64 0), ()) H)
def f60.l1 (Q : Post) (v6 : Value) (v1 : Value) (cover_1 : Value) (v7 : Value) (v2 : Value) (I1 : St [7] → Heap → Prop) (i_7 : Value) (H : Heap) : Prop :=
  W.bin .lss i_7 v6 H fun v8 H =>
  W.cond v8 H
  (fun H => W.lit 0 [(.int .i64 0)] 2 [] H fun v9 H =>
   W.loop (S := St [8, 9]) (fun I2 s H => f60.l2 Q v6 i_7 v1 cover_1 v7 I1 I2 s.1 s.2.1 H) (v9, (.int .i64 0), ()) H)
  (fun H => W.getN 3 v7 H fun v52 H =>
   W.putN 3 v2 v52 H fun _ H =>
   W.getN 3 v2 H fun v53 H => Q v53 H)
def f60.w (Q : Post) (p_0 : Value) (cover_1 : Value) (H : Heap) : Prop :=
  W.box p_0 43 H fun v1 H =>
  W.new [(.slice none 0 0), (.int .i64 0), (.slice none 0 0)] 90 H fun v2 H =>
  W.build [(.slice none 0 0), (.int .i64 0), (.slice none 0 0)] [(1, 1, (.int .i64 1))] H fun v3 H =>
  W.fieldAddr 1 v1 H fun v4 H =>
  W.get v4 H fun v5 H =>
  W.len v5 H fun v6 H =>
  W.new [(.slice none 0 0), (.int .i64 0), (.slice none 0 0)] 90 H fun v7 H =>
  W.putN 3 v7 v3 H fun _ H =>
  W.chk (fun H k => W.get v4 H k) v5 H (W.loop (S := St [7]) (fun I1 s H => f60.l1 Q v6 v1 cover_1 v7 v2 I1 s.1 H) ((.int .i64 0), ()) H)
theorem f60.enter {Q : Post} {p_0 : Value} {cover_1 : Value} {H : Heap} (h : f60.w Q p_0 cover_1 H) : Runs Tryz.prog 60 #[p_0, cover_1] H Q :=
  fn_enter (ann := [(3, [7]), (7, [8, 9]), (13, [8, 10])]) (by kernel_rfl) Tryz.func60 rfl (by kernel_rfl) h (by kernel_rfl)

/- loop.example/g01343/spec.l05Pivot -/
def f62.j1 (Q : Post) (k_11 : Value) (I2 : St [10, 11] → Heap → Prop) (own_10' : Value) (H : Heap) : Prop :=
  W.bin .add k_11 (.int .i64 1) H fun v43 H =>
  I2 (own_10', v43, ()) H
def f62.l2 (Q : Post) (v1 : Value) (i_9 : Value) (row_1 : Value) (v18 : Value) (column_2 : Value) (v19 : Value) (I1 : St [9] → Heap → Prop) (I2 : St [10, 11] → Heap → Prop) (own_10 : Value) (k_11 : Value) (H : Heap) : Prop :=
  W.fieldAddr 0 v1 H fun v28 H =>
  W.get v28 H fun v29 H =>
  W.indexAddr 1 v29 i_9 H fun v30 H =>
  W.get v30 H fun v31 H =>
  W.len v31 H fun v32 H =>
  W.bin .lss k_11 v32 H fun v33 H =>
  W.cond v33 H
  (fun H => W.bin .eql i_9 row_1 H fun v34 H =>
   W.cond v34 H
   (fun H => W.fieldAddr 0 v1 H fun v35 H =>
    W.get v35 H fun v36 H =>
    W.indexAddr 1 v36 i_9 H fun v37 H =>
    W.get v37 H fun v38 H =>
    W.indexAddr 1 v38 k_11 H fun v39 H =>
    W.get v39 H fun v40 H =>
    W.lit 1 [(.int .i64 0)] 2 [(0, 1, v40)] H fun v41 H =>
    W.append 1 2 own_10 v41 H fun v42 H =>
    f62.j1 Q k_11 I2 v42 H)
   (fun H => W.fieldAddr 0 v1 H fun v44 H =>
    W.get v44 H fun v45 H =>
    W.indexAddr 1 v45 i_9 H fun v46 H =>
    W.get v46 H fun v47 H =>
    W.indexAddr 1 v47 k_11 H fun v48 H =>
    W.get v48 H fun v49 H =>
    W.bin .mul v49 v18 H fun v50 H =>
    W.fieldAddr 0 v1 H fun v51 H =>
    W.get v51 H fun v52 H =>
    W.indexAddr 1 v52 i_9 H fun v53 H =>
    W.get v53 H fun v54 H =>
    W.indexAddr 1 v54 column_2 H fun v55 H =>
    W.get v55 H fun v56 H =>
    W.fieldAddr 0 v1 H fun v57 H =>
    W.get v57 H fun v58 H =>
    W.indexAddr 1 v58 row_1 H fun v59 H =>
    W.get v59 H fun v60 H =>
    W.indexAddr 1 v60 k_11 H fun v61 H =>
    W.get v61 H fun v62 H =>
    W.bin .mul v56 v62 H fun v63 H =>
    W.bin .sub v50 v63 H fun v64 H =>
    W.fieldAddr 1 v1 H fun v65 H =>
    W.get v65 H fun v66 H =>
    W.bin .quo v64 v66 H fun v67 H =>
    W.lit 1 [(.int .i64 0)] 2 [(0, 1, v67)] H fun v68 H =>
    W.append 1 2 own_10 v68 H fun v69 H =>
    f62.j1 Q k_11 I2 v69 H))
  (fun H => W.fieldAddr 0 v19 H fun v70 H =>
   W.get v70 H fun v71 H =>
   W.lit 1 [(.slice none 0 0)] 35 [(0, 1, own_10)] H fun v72 H =>
   W.append 1 35 v71 v72 H fun v73 H =>
   W.fieldAddr 0 v19 H fun v74 H =>
   W.put v74 v73 H fun _ H =>
   W.bin .add i_9 (.int .i64 1) H fun v75 H =>
   I1 (v75, ()) H)
def f62.l4 (Q : Post) (v90 : Value) (i_12 : Value) (I3 : St [12] → Heap → Prop) (I4 : St [14] → Heap → Prop) (k_14 : Value) (H : Heap) : Prop :=
  W.len v90 H fun v91 H =>
  W.bin .lss k_14 v91 H fun v92 H =>
  W.cond v92 H
  (fun H => W.indexAddr 1 v90 k_14 H fun v93 H =>
   W.get v93 H fun v94 H =>
   W.un .neg v94 H fun v95 H =>
   W.indexAddr 1 v90 k_14 H fun v96 H =>
   W.put v96 v95 H fun _ H =>
   W.bin .add k_14 (.int .i64 1) H fun v97 H =>
   I4 (v97, ()) H)
  (fun H => W.bin .add i_12 (.int .i64 1) H fun v98 H =>
   I3 (v98, ()) H)
def f62.j2 (Q : Post) (v19 : Value) (v2 : Value) (H : Heap) : Prop :=
  W.getN 3 v19 H fun v99 H =>
  W.putN 3 v2 v99 H fun _ H =>
  W.getN 3 v2 H fun v100 H => Q v100 H
def f62.l3 (Q : Post) (v19 : Value) (v2 : Value) (I3 : St [12] → Heap → Prop) (i_12 : Value) (H : Heap) : Prop :=
  W.fieldAddr 0 v19 H fun v83 H =>
  W.get v83 H fun v84 H =>
  W.len v84 H fun v85 H =>
  W.bin .lss i_12 v85 H fun v86 H =>
  W.cond v86 H
  (fun H => W.fieldAddr 0 v19 H fun v87 H =>
   W.get v87 H fun v88 H =>
   W.indexAddr 1 v88 i_12 H fun v89 H =>
   W.get v89 H fun v90 H =>
   W.loop (S := St [14]) (fun I4 s H => f62.l4 Q v90 i_12 I3 I4 s.1 H) ((.int .i64 0), ()) H)
  (fun H => f62.j2 Q v19 v2 H)
def f62.l1 (Q : Post) (v1 : Value) (row_1 : Value) (v18 : Value) (column_2 : Value) (v19 : Value) (v2 : Value) (I1 : St [9] → Heap → Prop) (i_9 : Value) (H : Heap) : Prop :=
  W.fieldAddr 0 v1 H fun v23 H =>
  W.get v23 H fun v24 H =>
  W.len v24 H fun v25 H =>
  W.bin .lss i_9 v25 H fun v26 H =>
  W.cond v26 H
  (fun H => W.lit 0 [(.int .i64 0)] 2 [] H fun v27 H =>
   W.loop (S := St [10, 11]) (fun I2 s H => f62.l2 Q v1 i_9 row_1 v18 column_2 v19 I1 I2 s.1 s.2.1 H) (v27, (.int .i64 0), ()) H)
  (fun H => W.fieldAddr 1 v19 H fun v76 H =>
   W.get v76 H fun v77 H =>
   W.bin .lss v77 (.int .i64 0) H fun v78 H =>
   W.cond v78 H
   (fun H => W.fieldAddr 1 v19 H fun v79 H =>
    W.get v79 H fun v80 H =>
    W.un .neg v80 H fun v81 H =>
    W.fieldAddr 1 v19 H fun v82 H =>
    W.put v82 v81 H fun _ H =>
    W.loop (S := St [12]) (fun I3 s H => f62.l3 Q v19 v2 I3 s.1 H) ((.int .i64 0), ()) H)
   (fun H => f62.j2 Q v19 v2 H))
def f62.w (Q : Post) (t_0 : Value) (row_1 : Value) (column_2 : Value) (H : Heap) : Prop :=
  W.box t_0 90 H fun v1 H =>
  W.new [(.slice none 0 0), (.int .i64 0), (.slice none 0 0)] 90 H fun v2 H =>
  W.fieldAddr 0 v1 H fun v3 H =>
  W.get v3 H fun v4 H =>
  W.indexAddr 1 v4 row_1 H fun v5 H =>
  W.get v5 H fun v6 H =>
  W.indexAddr 1 v6 column_2 H fun v7 H =>
  W.get v7 H fun v8 H =>
  W.fieldAddr 2 v1 H fun v9 H =>
  W.get v9 H fun v10 H =>
  W.callQ Tryz.prog (.func (.func 107) #[] #[]) #[v10] H fun v11 H =>
  W.build [(.slice none 0 0), (.int .i64 0), (.slice none 0 0)] [(1, 1, v8), (2, 1, v11)] H fun v12 H =>
  W.fieldAddr 0 v1 H fun v13 H =>
  W.get v13 H fun v14 H =>
  W.indexAddr 1 v14 row_1 H fun v15 H =>
  W.get v15 H fun v16 H =>
  W.indexAddr 1 v16 column_2 H fun v17 H =>
  W.get v17 H fun v18 H =>
  W.new [(.slice none 0 0), (.int .i64 0), (.slice none 0 0)] 90 H fun v19 H =>
  W.putN 3 v19 v12 H fun _ H =>
  W.chk (fun H k => W.get v17 H k) v18 H (W.chk (fun H k => W.get v15 H k) v16 H (W.chk (fun H k => W.get v13 H k) v14 H (W.fieldAddr 2 v19 H fun v20 H =>
  W.get v20 H fun v21 H =>
  W.indexAddr 1 v21 row_1 H fun v22 H =>
  W.put v22 column_2 H fun _ H =>
  W.loop (S := St [9]) (fun I1 s H => f62.l1 Q v1 row_1 v18 column_2 v19 v2 I1 s.1 H) ((.int .i64 0), ()) H)))
theorem f62.enter {Q : Post} {t_0 : Value} {row_1 : Value} {column_2 : Value} {H : Heap} (h : f62.w Q t_0 row_1 column_2 H) : Runs Tryz.prog 62 #[t_0, row_1, column_2] H Q :=
  fn_enter (ann := [(4, [9]), (8, [10, 11]), (17, [12]), (21, [14])]) (by kernel_rfl) Tryz.func62 rfl (by kernel_rfl) h (by kernel_rfl)

/- loop.example/g01343/spec.l05Key -/
def f115.l1 (Q : Post) (v4 : Value) (v1 : Value) (i_1 : Value) (b_4 : Value) (k_2 : Value) (a_3 : Value) (I1 : St [13, 14, 15] → Heap → Prop) (x_13 : Value) (y_14 : Value) (j_15 : Value) (H : Heap) : Prop :=
  W.bin .lss j_15 v4 H fun v25 H =>
  W.guarded v25 true (fun H k => k x_13 H) H fun v26 H =>
  W.guarded v25 true (fun H k => k y_14 H) H fun v27 H =>
  W.guarded v25 true (fun H k => W.bin .eql v26 v27 H k) H fun v28 H =>
  W.pick v25 v28 (.bool false) H fun v29 H =>
  W.cond v29 H
  (fun H => W.fieldAddr 0 v1 H fun v30 H =>
   W.get v30 H fun v31 H =>
   W.indexAddr 1 v31 i_1 H fun v32 H =>
   W.get v32 H fun v33 H =>
   W.indexAddr 1 v33 j_15 H fun v34 H =>
   W.get v34 H fun v35 H =>
   W.bin .mul v35 b_4 H fun v36 H =>
   W.fieldAddr 0 v1 H fun v37 H =>
   W.get v37 H fun v38 H =>
   W.indexAddr 1 v38 k_2 H fun v39 H =>
   W.get v39 H fun v40 H =>
   W.indexAddr 1 v40 j_15 H fun v41 H =>
   W.get v41 H fun v42 H =>
   W.bin .mul v42 a_3 H fun v43 H =>
   W.bin .add j_15 (.int .i64 1) H fun v44 H =>
   I1 (v36, v43, v44, ()) H)
  (fun H => W.bin .lss x_13 y_14 H fun v45 H =>
   Q v45 H)
def f115.w (Q : Post) (t_0 : Value) (i_1 : Value) (k_2 : Value) (a_3 : Value) (b_4 : Value) (H : Heap) : Prop :=
  W.box t_0 90 H fun v1 H =>
  W.fieldAddr 0 v1 H fun v2 H =>
  W.get v2 H fun v3 H =>
  W.len v3 H fun v4 H =>
  W.fieldAddr 0 v1 H fun v5 H =>
  W.get v5 H fun v6 H =>
  W.indexAddr 1 v6 i_1 H fun v7 H =>
  W.get v7 H fun v8 H =>
  W.len v8 H fun v9 H =>
  W.bin .sub v9 (.int .i64 1) H fun v10 H =>
  W.fieldAddr 0 v1 H fun v11 H =>
  W.get v11 H fun v12 H =>
  W.indexAddr 1 v12 i_1 H fun v13 H =>
  W.get v13 H fun v14 H =>
  W.indexAddr 1 v14 v10 H fun v15 H =>
  W.get v15 H fun v16 H =>
  W.bin .mul v16 b_4 H fun v17 H =>
  W.fieldAddr 0 v1 H fun v18 H =>
  W.get v18 H fun v19 H =>
  W.indexAddr 1 v19 k_2 H fun v20 H =>
  W.get v20 H fun v21 H =>
  W.indexAddr 1 v21 v10 H fun v22 H =>
  W.get v22 H fun v23 H =>
  W.bin .mul v23 a_3 H fun v24 H =>
  W.loop (S := St [13, 14, 15]) (fun I1 s H => f115.l1 Q v4 v1 i_1 b_4 k_2 a_3 I1 s.1 s.2.1 s.2.2.1 H) (v17, v24, (.int .i64 0), ()) H
theorem f115.enter {Q : Post} {t_0 : Value} {i_1 : Value} {k_2 : Value} {a_3 : Value} {b_4 : Value} {H : Heap} (h : f115.w Q t_0 i_1 k_2 a_3 b_4 H) : Runs Tryz.prog 115 #[t_0, i_1, k_2, a_3, b_4] H Q :=
  fn_enter (ann := [(4, [13, 14, 15])]) (by kernel_rfl) Tryz.func115 rfl (by kernel_rfl) h (by kernel_rfl)

/- loop.example/g01343/spec.l05Row -/
def f61.j1 (Q : Post) (i_6 : Value) (I1 : St [5, 6] → Heap → Prop) (best_5' : Value) (H : Heap) : Prop :=
  W.bin .add i_6 (.int .i64 1) H fun v38 H =>
  I1 (best_5', v38, ()) H
def f61.l1 (Q : Post) (v1 : Value) (column_1 : Value) (I1 : St [5, 6] → Heap → Prop) (best_5 : Value) (i_6 : Value) (H : Heap) : Prop :=
  W.fieldAddr 0 v1 H fun v2 H =>
  W.get v2 H fun v3 H =>
  W.len v3 H fun v4 H =>
  W.bin .lss i_6 v4 H fun v5 H =>
  W.cond v5 H
  (fun H => W.fieldAddr 0 v1 H fun v6 H =>
   W.get v6 H fun v7 H =>
   W.indexAddr 1 v7 i_6 H fun v8 H =>
   W.get v8 H fun v9 H =>
   W.indexAddr 1 v9 column_1 H fun v10 H =>
   W.get v10 H fun v11 H =>
   W.bin .gtr v11 (.int .i64 0) H fun v12 H =>
   W.guarded v12 true (fun H k => k best_5 H) H fun v13 H =>
   W.guarded v12 true (fun H k => W.bin .lss v13 (.int .i64 0) H k) H fun v14 H =>
   W.guarded v12 true (fun H k => k v14 H) H fun v15 H =>
   W.guarded v15 false (fun H k => W.getN 3 v1 H k) H fun v16 H =>
   W.guarded v15 false (fun H k => k i_6 H) H fun v17 H =>
   W.guarded v15 false (fun H k => k best_5 H) H fun v18 H =>
   W.guarded v15 false (fun H k => W.fieldAddr 0 v1 H k) H fun v19 H =>
   W.guarded v15 false (fun H k => W.get v19 H k) H fun v20 H =>
   W.guarded v15 false (fun H k => k i_6 H) H fun v21 H =>
   W.guarded v15 false (fun H k => W.indexAddr 1 v20 v21 H k) H fun v22 H =>
   W.guarded v15 false (fun H k => W.get v22 H k) H fun v23 H =>
   W.guarded v15 false (fun H k => k column_1 H) H fun v24 H =>
   W.guarded v15 false (fun H k => W.indexAddr 1 v23 v24 H k) H fun v25 H =>
   W.guarded v15 false (fun H k => W.get v25 H k) H fun v26 H =>
   W.guarded v15 false (fun H k => W.fieldAddr 0 v1 H k) H fun v27 H =>
   W.guarded v15 false (fun H k => W.get v27 H k) H fun v28 H =>
   W.guarded v15 false (fun H k => k best_5 H) H fun v29 H =>
   W.guarded v15 false (fun H k => W.indexAddr 1 v28 v29 H k) H fun v30 H =>
   W.guarded v15 false (fun H k => W.get v30 H k) H fun v31 H =>
   W.guarded v15 false (fun H k => k column_1 H) H fun v32 H =>
   W.guarded v15 false (fun H k => W.indexAddr 1 v31 v32 H k) H fun v33 H =>
   W.guarded v15 false (fun H k => W.get v33 H k) H fun v34 H =>
   W.guarded v15 false (fun H k => W.callQ Tryz.prog (.func (.func 115) #[] #[]) #[v16, v17, v18, v26, v34] H k) H fun v35 H =>
   W.guarded v12 true (fun H k => W.pick v15 (.bool true) v35 H k) H fun v36 H =>
   W.pick v12 v36 (.bool false) H fun v37 H =>
   W.cond v37 H
   (fun H => f61.j1 Q i_6 I1 i_6 H)
   (fun H => f61.j1 Q i_6 I1 best_5 H))
  (fun H => Q best_5 H)
def f61.w (Q : Post) (t_0 : Value) (column_1 : Value) (H : Heap) : Prop :=
  W.box t_0 90 H fun v1 H =>
  W.loop (S := St [5, 6]) (fun I1 s H => f61.l1 Q v1 column_1 I1 s.1 s.2.1 H) ((.int .i64 (-1)), (.int .i64 0), ()) H
theorem f61.enter {Q : Post} {t_0 : Value} {column_1 : Value} {H : Heap} (h : f61.w Q t_0 column_1 H) : Runs Tryz.prog 61 #[t_0, column_1] H Q :=
  fn_enter (ann := [(3, [5, 6])]) (by kernel_rfl) Tryz.func61 rfl (by kernel_rfl) h (by kernel_rfl)

/- loop.example/g01343/spec.l05Partner -/
def f63.w (Q : Post) (x_0 : Value) (n_1 : Value) (H : Heap) : Prop :=
  W.bin .lss x_0 n_1 H fun v1 H =>
  W.cond v1 H
  (fun H => W.bin .add x_0 n_1 H fun v2 H =>
   Q v2 H)
  (fun H => W.bin .sub x_0 n_1 H fun v3 H =>
   Q v3 H)
theorem f63.enter {Q : Post} {x_0 : Value} {n_1 : Value} {H : Heap} (h : f63.w Q x_0 n_1 H) : Runs Tryz.prog 63 #[x_0, n_1] H Q :=
  fn_enter (ann := []) (by kernel_rfl) Tryz.func63 rfl (by kernel_rfl) h (by kernel_rfl)


/-- A header that stays. -/
theorem hdr_at {H : Heap} {u : Value} {rows : List (List Int)} {i : Nat} (h : Has RSS H [u] rows) (hi : i < rows.length) : ∃ r, Has RS H [r] rows[i] ∧ ∀ (H' : Heap) (K : Post), H.Le H' → K r H' → W.get (elemPtr 1 u i) H' K := by
  obtain ⟨bs, h⟩ := h
  obtain ⟨b, o, e, kb, fs, q1, _, s⟩ := Rd.slice_at h hi
  obtain ⟨r, m, hr⟩ := s.one rfl hi
  refine ⟨r, ⟨_, hr⟩, fun H' K l c => ?_⟩
  rw [q1]
  show W.get (.pointer (some ((adr b o).add (i * 1)))) H' K
  have := Wi.get (k := K) (l.at s.blk s.lt) m c
  have e : (adr b o).add (i * 1) = adr b (o + i * 1) := by
    unfold Addr.add adr
    simp
    try (intro e; omega)
  rw [e]
  exact this

section
variable {H0 : Heap} {Q : Post} {n : Nat} {u w : Value} {d : Int} {rows : List (List Int)} {bas : List Int}

theorem fn115 (hR : Has RSS H0 [u] rows) (hT : RowsT n rows) {i j v : Nat} (hi : i < n) (hj : j < n) (hv : v < 2 * n + 1) (hQ : ∀ H' t, H0.Le H' → (t = true ↔ keyLess n rows v i j) → Q (.bool t) H') :
    Runs Tryz.prog 115 #[.agg #[u, .int .i64 d, w], .int .i64 (i : Nat), .int .i64 (j : Nat), .int .i64 (mAt rows i v), .int .i64 (mAt rows j v)] H0 Q := by
  have n5 := hT.n5
  have hi2 : i < rows.length := by rw [hT.rl]; exact hi
  have hj2 : j < rows.length := by rw [hT.rl]; exact hj
  have hli := hT.rw _ (List.getElem_mem hi2)
  have hlj := hT.rw _ (List.getElem_mem hj2)
  have ai := hT.ab i v hi hv
  have aj := hT.ab j v hj hv
  refine f115.enter ?_
  unfold f115.w
  refine Wl.box (cs := [u, .int .i64 d, w]) ((Loc.start H0).lent hR) fun H b h => ?_
  have hR' : ∀ {H}, H0.Le H → Has RSS H [u] rows := fun l => hR.le l
  have cell : ∀ {H K} {a c : Nat} (l : H0.Le H) (ha : a < n) (hc : c < 2 * n + 1), K (.int .i64 (mAt rows a c)) H → W.indexAddr 1 u (.int .i64 (a : Nat)) H fun p H => W.get p H fun r H => W.indexAddr 1 r (.int .i64 (c : Nat)) H fun p H => W.get p H K := fun {H K a c} l ha hc k => by
    have ha2 : a < rows.length := by rw [hT.rl]; exact ha
    have hla := hT.rw _ (List.getElem_mem ha2)
    refine Wl.at1H rfl (hR' l) ha2 fun r hr => Wl.atIntH hr (i := c) (by omega) fun _ => ?_
    rw [hT.at]
    exact k
  have kb : ∀ a c, a < n → c < n + 1 → (keyF (lhW n) (mAt rows) a c).natAbs ≤ 384000000 := fun a c ha hc => by
    unfold keyF lhW
    split
    · exact hT.ab a _ ha (by omega)
    · exact hT.ab a _ ha (by omega)
  refine Wi.fieldAddr0 (Wl.get (b := b) h rfl (Wl.lenH (hR' h.le) (Wi.fieldAddr0 (Wl.get (b := b) h rfl (Wl.at1H rfl (hR' h.le) hi2 fun r hr => Wl.lenH hr (Wi.sub (by unfold I64; omega) ?_))))))
  rw [hli, hT.rl, show ((2 * n + 1 : Nat) : Int) - 1 = ((2 * n : Nat) : Int) by omega]
  have m1 := mulA (hT.ab i (2 * n) hi (by omega)) aj
  have m2 := mulA (hT.ab j (2 * n) hj (by omega)) ai
  refine Wi.fieldAddr0 (Wl.get (b := b) h rfl (cell h.le hi (by omega) (Wi.mul (by unfold I64; omega) (Wi.fieldAddr0 (Wl.get (b := b) h rfl (cell h.le hj (by omega) (Wi.mul (by unfold I64; omega) ?_)))))))
  refine W.for_rule n (fun k st H => st = (.int .i64 (keyF (lhW n) (mAt rows) i k * mAt rows j v), .int .i64 (keyF (lhW n) (mAt rows) j k * mAt rows i v), .int .i64 (k : Nat), ()) ∧ (∀ t, t < k → mAt rows j v * keyF (lhW n) (mAt rows) i t = mAt rows i v * keyF (lhW n) (mAt rows) j t) ∧ Ab.Loc H0 [.box b [u, .int .i64 d, w], .lent RSS [u] rows] H) ⟨rfl, fun t ht => by omega, h⟩ ?_
  rintro k st H J hk ⟨rfl, hbef, h⟩ hJ
  have fin : keyF (lhW n) (mAt rows) i k * mAt rows j v ≠ keyF (lhW n) (mAt rows) j k * mAt rows i v ∨ k = n → W.bin .lss (.int .i64 (keyF (lhW n) (mAt rows) i k * mAt rows j v)) (.int .i64 (keyF (lhW n) (mAt rows) j k * mAt rows i v)) H fun v45 H => Q v45 H := fun hc => by
    have key : keyF (lhW n) (mAt rows) i k * mAt rows j v < keyF (lhW n) (mAt rows) j k * mAt rows i v ↔ keyLess n rows v i j := by
      rw [Int.mul_comm (keyF (lhW n) (mAt rows) i k), Int.mul_comm (keyF (lhW n) (mAt rows) j k)]
      rw [Int.mul_comm (keyF (lhW n) (mAt rows) i k), Int.mul_comm (keyF (lhW n) (mAt rows) j k)] at hc
      constructor
      · intro q
        exact ⟨k, by omega, q, hbef⟩
      · rintro ⟨t, t1, t2, t3⟩
        have t2 : mAt rows j v * keyF (lhW n) (mAt rows) i t < mAt rows i v * keyF (lhW n) (mAt rows) j t := t2
        have t3 : ∀ x, x < t → mAt rows j v * keyF (lhW n) (mAt rows) i x = mAt rows i v * keyF (lhW n) (mAt rows) j x := t3
        have : t = k := by
          rcases Nat.lt_trichotomy t k with c | c | c
          · have := hbef t c; omega
          · exact c
          · have := t3 k c
            rcases hc with hc | hc
            · exact absurd this hc
            · omega
        subst this
        exact t2
    exact Wi.lssC (fun q => hQ _ _ h.le ⟨fun _ => key.1 q, fun _ => rfl⟩) fun q => hQ _ _ h.le ⟨fun g => Bool.noConfusion g, fun g => absurd (key.2 g) q⟩
  refine Wi.lssC (fun hlt => ?_) fun hge => ?_
  · simp only [gw]
    have hkn : k < n := by omega
    refine Wi.eqlC (fun heq => ?_) fun hne => ?_
    · simp only [gw]
      have ki : keyF (lhW n) (mAt rows) i (k + 1) = mAt rows i k := by unfold keyF; rw [if_neg (by omega)]; rfl
      have kj : keyF (lhW n) (mAt rows) j (k + 1) = mAt rows j k := by unfold keyF; rw [if_neg (by omega)]; rfl
      have m1 := mulA (hT.ab i k hi (by omega)) aj
      have m2 := mulA (hT.ab j k hj (by omega)) ai
      refine Wi.fieldAddr0 (Wl.get (b := b) h rfl (cell h.le hi (by omega) (Wi.mul (by unfold I64; omega) (Wi.fieldAddr0 (Wl.get (b := b) h rfl (cell h.le hj (by omega) (Wi.mul (by unfold I64; omega) (Wi.add (by unfold I64; omega) (hJ _ _ hkn ⟨by rw [ki, kj]; rfl, fun t ht => ?_, h⟩)))))))))
      by_cases c : t = k
      · subst c
        exact (Int.mul_comm _ _).trans (heq.trans (Int.mul_comm _ _))
      · exact hbef t (by omega)
    · simp only [gw]
      exact fin (.inl hne)
  · simp only [gw]
    exact fin (.inr (by omega))

theorem fn61 (hR : Has RSS H0 [u] rows) (hT : RowsT n rows) {v : Nat} (hv : v < 2 * n + 1) (hQ : ∀ H', H0.Le H' → Q (.int .i64 (leastTo n rows v n)) H') : Runs Tryz.prog 61 #[.agg #[u, .int .i64 d, w], .int .i64 (v : Nat)] H0 Q := by
  have n5 := hT.n5
  refine f61.enter ?_
  unfold f61.w
  refine Wl.box (cs := [u, .int .i64 d, w]) ((Loc.start H0).lent hR) fun H b h => ?_
  have lo := leastTo_lt n rows v
  have hR' : ∀ {H}, H0.Le H → Has RSS H [u] rows := fun l => hR.le l
  have cell : ∀ {H K} {a c : Nat} (l : H0.Le H) (ha : a < n) (hc : c < 2 * n + 1), K (.int .i64 (mAt rows a c)) H → W.indexAddr 1 u (.int .i64 (a : Nat)) H fun p H => W.get p H fun r H => W.indexAddr 1 r (.int .i64 (c : Nat)) H fun p H => W.get p H K := fun {H K a c} l ha hc k => by
    have ha2 : a < rows.length := by rw [hT.rl]; exact ha
    have hla := hT.rw _ (List.getElem_mem ha2)
    refine Wl.at1H rfl (hR' l) ha2 fun r hr => Wl.atIntH hr (i := c) (by omega) fun _ => ?_
    rw [hT.at]
    exact k
  refine W.for_rule n (fun i st H => st = (.int .i64 (leastTo n rows v i), .int .i64 (i : Nat), ()) ∧ Ab.Loc H0 [.box b [u, .int .i64 d, w], .lent RSS [u] rows] H) ⟨rfl, h⟩ ?_
  rintro i st H J hi ⟨rfl, h⟩ hJ
  refine Wi.fieldAddr0 (Wl.get (b := b) h rfl (Wl.lenH (hR' h.le) ?_))
  rw [hT.rl]
  refine Wi.lssC (fun hlt => Wi.tru ?_) fun hge => Wi.fls ?_
  · have hin : i < n := by omega
    have fin : ∀ (H : Heap) (t : Int), Ab.Loc H0 [.box b [u, .int .i64 d, w], .lent RSS [u] rows] H → t = leastTo n rows v (i + 1) → f61.j1 Q (.int .i64 (i : Nat)) J (.int .i64 t) H := fun H t h e => by
      subst e
      unfold f61.j1
      exact Wi.add (by unfold I64; omega) (hJ _ _ hin ⟨rfl, h⟩)
    have low := lo i
    refine Wi.fieldAddr0 (Wl.get (b := b) h rfl (cell h.le hin hv (Wi.gtrC (fun hp => ?_) fun hnp => ?_)))
    · simp only [gw]
      refine Wi.lssC (fun hb => ?_) fun hb => ?_
      · simp only [gw]
        refine fin _ _ h ?_
        unfold leastTo
        rw [if_pos ⟨hp, .inl hb⟩]
      · simp only [gw]
        obtain ⟨c, hc⟩ : ∃ c : Nat, leastTo n rows v i = (c : Int) := ⟨(leastTo n rows v i).toNat, by omega⟩
        have hcn : c < n := by omega
        rw [hc]
        refine Wl.getA (b := b) h rfl (Wi.fieldAddr0 (Wl.get (b := b) h rfl (cell h.le hin hv (Wi.fieldAddr0 (Wl.get (b := b) h rfl (cell h.le hcn hv ?_))))))
        refine Wi.callQ (fn115 (hR' h.le) hT hin hcn hv fun H' t l' ht => ⟨l', ?_⟩)
        have h := h.to l'
        cases t with
        | true =>
          simp only [gw]
          refine fin _ _ h ?_
          unfold leastTo
          rw [hc, if_pos ⟨hp, .inr (by rw [show ((c : Nat) : Int).toNat = c by omega]; exact ht.1 rfl)⟩]
        | false =>
          simp only [gw]
          refine fin _ _ h ?_
          unfold leastTo
          rw [hc, if_neg fun q => q.2.elim (fun q => by omega) fun q => by rw [show ((c : Nat) : Int).toNat = c by omega] at q; exact Bool.noConfusion (ht.2 q)]
    · simp only [gw]
      refine fin _ _ h ?_
      exact (leastTo_no fun q => hnp q.1).symm
  · have : i = n := by omega
    subst this
    exact hQ _ h.le

theorem fn63 (n5 : n ≤ 5) {v : Nat} (hv : v < 2 * n) (hQ : Q (.int .i64 (partN n v : Nat)) H0) : Runs Tryz.prog 63 #[.int .i64 (v : Nat), .int .i64 (n : Nat)] H0 Q := by
  unfold partN at hQ
  refine f63.enter ?_
  unfold f63.w
  refine Wi.lssC (fun h => Wi.tru (Wi.add (by unfold I64; omega) ?_)) fun h => Wi.fls (Wi.sub (by unfold I64; omega) ?_)
  · rw [if_pos (by omega)] at hQ
    exact hQ
  · rw [if_neg (by omega), show (((v - n : Nat) : Nat) : Int) = (v : Int) - (n : Int) by omega] at hQ
    exact hQ

end

theorem fn60 {H0 : Heap} {Q : Post} {cs : List Value} {vc : Value} {g : Game} (hg : IsGm g) (hr : Has RProblem H0 cs (gmP g)) (hc : Has RS H0 [vc] []) (hQ : ∀ H' u w, Ab.Loc H0 [.data RSS [u] (lhRows0 g), .data RS [w] (bas0 (nG g))] H' → Q (.agg #[u, .int .i64 1, w]) H') :
    Runs Tryz.prog 60 #[.agg cs.toArray, vc] H0 Q := by
  obtain ⟨p1, p2, rfl, r1, r2⟩ := hasProb hr
  have hn5 : nG g ≤ 5 := hg.kl
  have hql : (gmP g).2.length = nG g := by simp [gmP]
  have hml : (gmP g).1.length = nG g := tabL_len _ _
  refine f60.enter ?_
  unfold f60.w
  have h := (((Loc.start H0).lent hc).lent r2).lent r1
  refine Wl.box (cs := [p1, p2]) h fun H bp h => Wl.new h fun H b2 h => ?_
  refine Wi.build (cells := [.slice none 0 0, .int .i64 1, .slice none 0 0]) rfl (Wi.fieldAddr (Wl.get (b := bp) (o := 1) h rfl (Wl.len (v := p2) (xs := (gmP g).2) h ?_)))
  rw [hql]
  refine Wl.new h fun H b h => Wl.putA (b := b) h rfl rfl rfl fun H h => Wi.chk (Wl.get (b := bp) (o := 1) h rfl ⟨rfl, rfl⟩) ?_
  have hE : ∀ i c, lhE g i c = if c < nG g then (if i = c then 1 else 0) else if c < 2 * nG g then -(gmE g i (c - nG g)) else 1 := fun _ _ => rfl
  have hsq : ∀ r ∈ (gmP g).1, r.length = nG g := (tabL_sq (nG g) (gmE g)).2
  have htab : ∀ i k, i < nG g → k < nG g → mAt (gmP g).1 i k = gmE g i k := fun i k hi hk => tabL_at hi hk
  have hrow : ∀ i, rowE g i = (List.range (2 * nG g + 1)).map (lhE g i) := fun i => rfl
  have hq1 : ∀ i (hi : i < (gmP g).2.length), (gmP g).2[i] = 1 := fun i hi => by simp [gmP]
  have hall : (List.range (nG g)).map (rowE g) = lhRows0 g := rfl
  generalize hn : nG g = n at *
  have h : Ab.Loc H0 [.grow RS 35 (.slice none 0 0) [], .grow Rd.int 2 (.slice none 0 0) [], .box b [.slice none 0 0, .int .i64 1, .slice none 0 0], .box b2 [.slice none 0 0, .int .i64 0, .slice none 0 0], .box bp [p1, p2], .lent RSS [p1] (gmP g).1, .lent RS [p2] (gmP g).2, .lent RS [vc] []] H := (h.nilG Rd.int 2).nilG RS 35
  refine W.for_rule n (fun i st H => ∃ u w, st = (.int .i64 (i : Nat), ()) ∧ Ab.Loc H0 [.grow RS 35 u ((List.range i).map (rowE g)), .grow Rd.int 2 w (bas0 i), .box b [u, .int .i64 1, w], .box b2 [.slice none 0 0, .int .i64 0, .slice none 0 0], .box bp [p1, p2], .lent RSS [p1] (gmP g).1, .lent RS [p2] (gmP g).2, .lent RS [vc] []] H) ⟨_, _, rfl, h⟩ ?_
  rintro i st H J hi ⟨u, w, rfl, h⟩ hJ
  refine Wi.lssC (fun hlt => Wi.tru ?_) fun hge => Wi.fls ?_
  · have hin : i < n := by omega
    have him : i < (gmP g).1.length := by omega
    have hiq : i < (gmP g).2.length := by omega
    have hrl : (gmP g).1[i].length = n := hsq _ (List.getElem_mem him)
    have hme : ∀ k (hk : k < (gmP g).1[i].length), (gmP g).1[i][k] = gmE g i k := fun k hk => by
      rw [← htab i k hin (by omega)]
      unfold mAt
      rw [show (gmP g).1.getD i [] = (gmP g).1[i] by simp [List.getD_eq_getElem?_getD, List.getElem?_eq_getElem him], atD hk]
    refine Wl.lit0 (ty := 2) Rd.int rfl h fun H v h => ?_
    refine W.for_rule n (fun k st H => ∃ v, st = (v, .int .i64 (k : Nat), ()) ∧ Ab.Loc H0 [.grow Rd.int 2 v ((List.range k).map (lhE g i)), .grow RS 35 u ((List.range i).map (rowE g)), .grow Rd.int 2 w (bas0 i), .box b [u, .int .i64 1, w], .box b2 [.slice none 0 0, .int .i64 0, .slice none 0 0], .box bp [p1, p2], .lent RSS [p1] (gmP g).1, .lent RS [p2] (gmP g).2, .lent RS [vc] []] H) ⟨v, rfl, h⟩ ?_
    rintro k st H J2 hk ⟨v, rfl, h⟩ hJ2
    refine Wi.lssC (fun hlt2 => Wi.tru ?_) fun hge2 => Wi.fls ?_
    · have hkn : k < n := by omega
      have push : ∀ x : Int, lhE g i k = x → W.lit 1 [.int .i64 0] 2 [(0, 1, .int .i64 x)] H fun y H => W.append 1 2 v y H fun v' H => f60.j1 Q (.int .i64 (k : Nat)) J2 v' H := fun x hx => by
        have hI : I64 x := by rw [← hx]; exact lhE_i64 hg i k
        refine Wl.pushP (r := Rd.int) (x := x) (i := 0) rfl rfl rfl (fun _ => ⟨rfl, rfl, hI⟩) h (by simp; omega) fun H v' h => ?_
        unfold f60.j1
        refine Wi.add (by unfold I64; omega) (hJ2 _ _ hkn ⟨v', rfl, ?_⟩)
        rw [← range_push hx]
        exact h
      refine Wi.eqlC (fun e => Wi.tru (push 1 ?_)) fun e => Wi.fls (push 0 ?_)
      · rw [hE, if_pos hkn, if_pos (by omega)]
      · rw [hE, if_pos hkn, if_neg (by omega)]
    · have hkn : k = n := by omega
      subst hkn
      refine W.for_rule k (fun c st H => ∃ v, st = (v, .int .i64 (c : Nat), ()) ∧ Ab.Loc H0 [.grow Rd.int 2 v ((List.range (k + c)).map (lhE g i)), .grow RS 35 u ((List.range i).map (rowE g)), .grow Rd.int 2 w (bas0 i), .box b [u, .int .i64 1, w], .box b2 [.slice none 0 0, .int .i64 0, .slice none 0 0], .box bp [p1, p2], .lent RSS [p1] (gmP g).1, .lent RS [p2] (gmP g).2, .lent RS [vc] []] H) ⟨v, rfl, h⟩ ?_
      rintro c st H J3 hc ⟨v, rfl, h⟩ hJ3
      refine Wi.lssC (fun hlt3 => Wi.tru ?_) fun hge3 => Wi.fls ?_
      · have hck : c < k := by omega
        have hab := gmE_abs hg i c
        refine Wi.fieldAddr0 (Wl.get (b := bp) h rfl (Wl.at1H rfl (h.rd (cs := [p1]) (x := (gmP g).1)) him fun r hr => Wl.atIntH hr (i := c) (by omega) fun _ => ?_))
        rw [hme c (by omega)]
        refine Wi.neg (by unfold I64; omega) ?_
        refine Wl.pushP (r := Rd.int) (x := -(gmE g i c)) (i := 0) rfl rfl rfl (fun _ => ⟨rfl, rfl, by unfold I64; omega⟩) h (by simp; omega) fun H v' h => ?_
        refine Wi.add (by unfold I64; omega) (hJ3 _ _ hck ⟨v', rfl, ?_⟩)
        rw [show k + (c + 1) = (k + c) + 1 by omega, ← range_push (f := lhE g i) (k := k + c) (x := -(gmE g i c)) (by rw [hE, if_neg (by omega), if_pos (by omega), show k + c - k = c by omega])]
        exact h
      · have hck : c = k := by omega
        subst hck
        refine Wl.len (v := vc) (xs := ([] : List Int)) h (Wi.gtrC (fun q => absurd q (by decide)) fun _ => Wi.fls ?_)
        unfold f60.j2
        refine Wi.fieldAddr (Wl.get (b := b) (o := 0) h rfl (Wi.fieldAddr (Wl.get (b := bp) (o := 1) h rfl (Wl.atIntH (h.rd (cs := [p2]) (x := (gmP g).2)) hiq fun _ => ?_))))
        rw [hq1 i hiq]
        refine Wl.pushP (r := Rd.int) (x := (1 : Int)) (i := 0) rfl rfl rfl (fun _ => ⟨rfl, rfl, by unfold I64; omega⟩) h (by simp; omega) fun H v' h => ?_
        have er : (List.range (c + c)).map (lhE g i) ++ [1] = rowE g i := by
          rw [hrow, show 2 * c + 1 = (c + c) + 1 by omega]
          exact range_push (by rw [hE, if_neg (by omega), if_neg (by omega)])
        have h : Ab.Loc H0 [.grow Rd.int 2 v' ((List.range (c + c)).map (lhE g i) ++ [1]), .grow RS 35 u ((List.range i).map (rowE g)), .grow Rd.int 2 w (bas0 i), .box b [u, .int .i64 1, w], .box b2 [.slice none 0 0, .int .i64 0, .slice none 0 0], .box bp [p1, p2], .lent RSS [p1] (gmP g).1, .lent RS [p2] (gmP g).2, .lent RS [vc] []] H := h
        rw [er] at h
        refine Wi.chk (Wl.get (b := b) (o := 0) h rfl ⟨rfl, rfl⟩) ?_
        have h := h.asData (i := 0) rfl
        have h : Ab.Loc H0 [.data RS [v'] (rowE g i), .grow RS 35 u ((List.range i).map (rowE g)), .grow Rd.int 2 w (bas0 i), .box b [u, .int .i64 1, w], .box b2 [.slice none 0 0, .int .i64 0, .slice none 0 0], .box bp [p1, p2], .lent RSS [p1] (gmP g).1, .lent RS [p2] (gmP g).2, .lent RS [vc] []] H := h
        have hcu := (h.rd (cs := [v']) (r := RS) (x := rowE g i)).one
        refine Wl.pushO (r := RS) (u := v') (x := rowE g i) (i := 1) (j := 0) rfl h (by decide) hcu (by simp; omega) fun H u' h => ?_
        have h : Ab.Loc H0 [.emp, .grow RS 35 u' ((List.range i).map (rowE g) ++ [rowE g i]), .grow Rd.int 2 w (bas0 i), .box b [u, .int .i64 1, w], .box b2 [.slice none 0 0, .int .i64 0, .slice none 0 0], .box bp [p1, p2], .lent RSS [p1] (gmP g).1, .lent RS [p2] (gmP g).2, .lent RS [vc] []] H := h
        have k3 := (h.rd (cs := [u']) (r := RSS)).cell1
        refine Wi.fieldAddr (Wl.put (b := b) (o := 0) (i := 3) h k3 (by simp) fun H h => Wi.fieldAddr (Wl.get (b := b) (o := 2) h rfl ?_))
        refine Wl.pushP (r := Rd.int) (x := ((i : Nat) : Int)) (i := 2) rfl rfl rfl (fun _ => ⟨rfl, rfl, by unfold I64; omega⟩) h (by simp [bas0]; omega) fun H w' h => ?_
        have h : Ab.Loc H0 [.emp, .grow RS 35 u' ((List.range i).map (rowE g) ++ [rowE g i]), .grow Rd.int 2 w' (bas0 i ++ [((i : Nat) : Int)]), .box b [u', .int .i64 1, w], .box b2 [.slice none 0 0, .int .i64 0, .slice none 0 0], .box bp [p1, p2], .lent RSS [p1] (gmP g).1, .lent RS [p2] (gmP g).2, .lent RS [vc] []] H := h
        have k4 := (h.rd (cs := [w']) (r := RS)).cell1
        refine Wi.fieldAddr (Wl.put (b := b) (o := 2) (i := 3) h k4 (by simp) fun H h => Wi.add (by unfold I64; omega) (hJ _ _ hin ⟨u', w', rfl, ?_⟩))
        rw [List.range_succ, List.map_append]
        have e2 : bas0 (i + 1) = bas0 i ++ [((i : Nat) : Int)] := by unfold bas0; rw [List.range_succ, List.map_append]; rfl
        rw [e2]
        exact h.cut 0
  · have : i = n := by omega
    subst this
    have h := (h.asData (i := 0) rfl).asData (i := 1) rfl
    have h : Ab.Loc H0 [.data RSS [u] ((List.range i).map (rowE g)), .data RS [w] (bas0 i), .box b [u, .int .i64 1, w], .box b2 [.slice none 0 0, .int .i64 0, .slice none 0 0], .box bp [p1, p2], .lent RSS [p1] (gmP g).1, .lent RS [p2] (gmP g).2, .lent RS [vc] []] H := h
    have k3 := (h.rd (cs := [u]) (r := RSS) (x := (List.range i).map (rowE g))).cell1
    have k4 := (h.rd (cs := [w]) (r := RS) (x := bas0 i)).cell1
    have kc : [u, .int .i64 1, w].all isCell = true := by
      rw [List.all_cons, List.all_cons, List.all_cons, List.all_nil, k3, k4]
      rfl
    refine Wl.getA (b := b) h rfl (Wl.putA (b := b2) (i := 3) h rfl rfl kc fun H h => Wl.getA (b := b2) h rfl ?_)
    rw [hall] at h
    exact hQ _ u w (h.first 2)

theorem fn62 {H0 : Heap} {Q : Post} {u w : Value} {g : Game} (hg : IsGm g) {s : LhS} (hI : LhI g s) (hR : Has RSS H0 [u] s.rows) (hB : Has RS H0 [w] s.bas)
    (hQ : ∀ H' u' w', Ab.Loc H0 [.data RSS [u'] (lhStep (nG g) s).rows, .data RS [w'] (lhStep (nG g) s).bas] H' → Q (.agg #[u', .int .i64 (lhStep (nG g) s).den, w']) H') :
    Runs Tryz.prog 62 #[.agg #[u, .int .i64 s.den, w], .int .i64 (lhRow (nG g) s : Nat), .int .i64 (s.v : Nat)] H0 Q := by
  have hT := hI.rowsT hg
  obtain ⟨hl, _⟩ := hI.least hg
  have hr := hl.lt
  have hp := hl.pos
  have hN := (hI.next hg).1
  have hTN := hN.rowsT hg
  have hd := hI.tab.pos
  have hdb := hI.tab.dabs hg.kl fun i c _ _ => lhE_abs hg i c
  have n5 : nG g ≤ 5 := hg.kl
  have vl := hI.vl
  have hpiv := fun i c (hi : i < nG g) (hc : c < 2 * nG g + 1) => hI.piv hg hi hc
  have hbl := hI.bl
  have ebas : (lhStep (nG g) s).bas = s.bas.set (lhRow (nG g) s) (s.v : Nat) := rfl
  have eden : (lhStep (nG g) s).den = mAt s.rows (lhRow (nG g) s) s.v := rfl
  generalize hrows' : (lhStep (nG g) s).rows = P at *
  generalize lhRow (nG g) s = r at *
  generalize hn : nG g = n at *
  have hrl : r < s.rows.length := by rw [hT.rl]; exact hr
  have hrw := hT.rw _ (List.getElem_mem hrl)
  have hpa := hT.ab r s.v hr (by omega)
  obtain ⟨rh, hrh, hget⟩ := hdr_at hR hrl
  have hR' : ∀ {H}, H0.Le H → Has RSS H [u] s.rows := fun l => hR.le l
  have cell : ∀ {H K} {a c : Nat} (l : H0.Le H) (ha : a < n) (hc : c < 2 * n + 1), K (.int .i64 (mAt s.rows a c)) H → W.indexAddr 1 u (.int .i64 (a : Nat)) H fun p H => W.get p H fun r H => W.indexAddr 1 r (.int .i64 (c : Nat)) H fun p H => W.get p H K := fun {H K a c} l ha hc k => by
    have ha2 : a < s.rows.length := by rw [hT.rl]; exact ha
    have hla := hT.rw _ (List.getElem_mem ha2)
    refine Wl.at1H rfl (hR' l) ha2 fun r hr => Wl.atIntH hr (i := c) (by omega) fun _ => ?_
    rw [hT.at]
    exact k
  refine f62.enter ?_
  unfold f62.w
  refine Wl.box (cs := [u, .int .i64 s.den, w]) (((Loc.start H0).lent hB).lent hR) fun H b1 h => Wl.new h fun H b2 h => ?_
  refine Wi.fieldAddr0 (Wl.get (b := b1) h rfl (cell h.le hr (by omega) (Wi.fieldAddr (Wl.get (b := b1) (o := 2) h rfl (Wi.callQ (fn107 (hB.le h.le) (by omega) fun H w' f => ⟨f.le, ?_⟩))))))
  have h := (h.addG f).asData (i := 0) rfl
  have h : Ab.Loc H0 [.data RS [w'] s.bas, .box b2 [.slice none 0 0, .int .i64 0, .slice none 0 0], .box b1 [u, .int .i64 s.den, w], .lent RSS [u] s.rows, .lent RS [w] s.bas] H := h
  have k4 := (h.rd (cs := [w']) (r := RS) (x := s.bas)).cell1
  have c4 := (h.rd (cs := [w']) (r := RS) (x := s.bas)).one
  have hfill : ∀ x : Int, fillA [.slice none 0 0, .int .i64 0, .slice none 0 0] [(1, 1, .int .i64 x), (2, 1, w')] = some [.slice none 0 0, .int .i64 x, w'] := fun x => by
    have e : cellsA (.int .i64 x) = some [.int .i64 x] := rfl
    simp [fillA, e, c4]
  refine Wi.build (cells := [.slice none 0 0, .int .i64 (mAt s.rows r s.v), w']) (hfill _) ?_
  refine Wi.fieldAddr0 (Wl.get (b := b1) h rfl (Wl.adrH (hR' h.le) hrl (hget _ _ h.le (Wl.adrH (hrh.le h.le) (i := s.v) (by omega) (Wl.ldIntH (hrh.le h.le) (i := s.v) (by omega) fun _ => ?_)))))
  have ep : s.rows[r][s.v]'(by omega) = mAt s.rows r s.v := hT.at hrl (by omega)
  rw [ep]
  have kc0 : [.slice none 0 0, .int .i64 (mAt s.rows r s.v), w'].all isCell = true := by
    rw [List.all_cons, List.all_cons, List.all_cons, List.all_nil, k4]
    rfl
  refine Wl.new h fun H b h => Wl.putA (b := b) (i := 0) h rfl rfl kc0 fun H h => ?_
  refine Wi.chk (Wl.ldIntH (hrh.le h.le) (i := s.v) (by omega) fun _ => by rw [ep]; exact ⟨rfl, rfl⟩) (Wi.chk (hget _ _ h.le ⟨rfl, rfl⟩) (Wi.chk (Wl.get (b := b1) (o := 0) h rfl ⟨rfl, rfl⟩) ?_))
  have h : Ab.Loc H0 [.box b [.slice none 0 0, .int .i64 (mAt s.rows r s.v), w'], .data RS [w'] s.bas, .box b2 [.slice none 0 0, .int .i64 0, .slice none 0 0], .box b1 [u, .int .i64 s.den, w], .lent RSS [u] s.rows, .lent RS [w] s.bas] H := h
  refine Wi.fieldAddr (Wl.get (b := b) (o := 2) h rfl (Wl.setInt (v := w') (j := 1) h (i := r) (by omega) (by unfold I64; omega) fun H h => ?_))
  have h : Ab.Loc H0 [.grow RS 35 (.slice none 0 0) (P.take 0), .box b [.slice none 0 0, .int .i64 (mAt s.rows r s.v), w'], .data RS [w'] (s.bas.set r (s.v : Nat)), .box b2 [.slice none 0 0, .int .i64 0, .slice none 0 0], .box b1 [u, .int .i64 s.den, w], .lent RSS [u] s.rows, .lent RS [w] s.bas] H := h.nilG RS 35
  have hPl := hTN.rl
  refine W.for_rule n (fun i st H => ∃ u', st = (.int .i64 (i : Nat), ()) ∧ Ab.Loc H0 [.grow RS 35 u' (P.take i), .box b [u', .int .i64 (mAt s.rows r s.v), w'], .data RS [w'] (s.bas.set r (s.v : Nat)), .box b2 [.slice none 0 0, .int .i64 0, .slice none 0 0], .box b1 [u, .int .i64 s.den, w], .lent RSS [u] s.rows, .lent RS [w] s.bas] H) ⟨_, rfl, h⟩ ?_
  rintro i st H J hi ⟨u', rfl, h⟩ hJ
  refine Wi.fieldAddr0 (Wl.get (b := b1) h rfl (Wl.lenH (hR' h.le) ?_))
  rw [hT.rl]
  refine Wi.lssC (fun hlt => Wi.tru ?_) fun hge => Wi.fls ?_
  · have hin : i < n := by omega
    have hil : i < s.rows.length := by rw [hT.rl]; exact hin
    have hiP : i < P.length := by omega
    have hiw := hT.rw _ (List.getElem_mem hil)
    have hPw := hTN.rw _ (List.getElem_mem hiP)
    refine Wl.lit0 (ty := 2) Rd.int rfl h fun H v h => ?_
    refine W.for_rule (2 * n + 1) (fun k st H => ∃ v, st = (v, .int .i64 (k : Nat), ()) ∧ Ab.Loc H0 [.grow Rd.int 2 v (P[i].take k), .grow RS 35 u' (P.take i), .box b [u', .int .i64 (mAt s.rows r s.v), w'], .data RS [w'] (s.bas.set r (s.v : Nat)), .box b2 [.slice none 0 0, .int .i64 0, .slice none 0 0], .box b1 [u, .int .i64 s.den, w], .lent RSS [u] s.rows, .lent RS [w] s.bas] H) ⟨v, rfl, h⟩ ?_
    rintro k st H J2 hk ⟨v, rfl, h⟩ hJ2
    refine Wi.fieldAddr0 (Wl.get (b := b1) h rfl (Wl.at1H rfl (hR' h.le) hil fun ri hri => Wl.lenH hri ?_))
    rw [hiw]
    refine Wi.lssC (fun hlt2 => Wi.tru ?_) fun hge2 => Wi.fls ?_
    · have hkn : k < 2 * n + 1 := by omega
      have eP : P[i][k]'(by omega) = mAt P i k := hTN.at hiP (by omega)
      have ek := hpiv i k hin hkn
      have push : ∀ x : Int, x = mAt P i k → W.lit 1 [.int .i64 0] 2 [(0, 1, .int .i64 x)] H fun y H => W.append 1 2 v y H fun v' H => f62.j1 Q (.int .i64 (k : Nat)) J2 v' H := fun x hx => by
        have hb := hTN.ab i k hin hkn
        refine Wl.pushP (r := Rd.int) (x := x) (i := 0) rfl rfl rfl (fun _ => ⟨rfl, rfl, by rw [hx]; unfold I64; omega⟩) h (by simp; omega) fun H v' h => ?_
        unfold f62.j1
        refine Wi.add (by unfold I64; omega) (hJ2 _ _ hkn ⟨v', rfl, ?_⟩)
        rw [List.take_succ_eq_append_getElem (by omega), eP, ← hx]
        exact h
      refine Wi.eqlC (fun e => Wi.tru ?_) fun e => Wi.fls ?_
      · have e : i = r := by omega
        refine Wi.fieldAddr0 (Wl.get (b := b1) h rfl (cell h.le hin hkn (push _ ?_)))
        rw [ek, if_pos e, e]
      · have e : i ≠ r := by omega
        rw [if_neg e] at ek
        have b1' := hT.ab i k hin hkn
        have b2' := hT.ab r k hr hkn
        have b3' := hT.ab i s.v hin (by omega)
        have m1 := mulA b1' hpa
        have m2 := mulA b3' b2'
        have b4' := hTN.ab i k hin hkn
        refine Wi.fieldAddr0 (Wl.get (b := b1) h rfl (cell h.le hin hkn (Wi.mul (by unfold I64; omega) (Wi.fieldAddr0 (Wl.get (b := b1) h rfl (cell h.le hin (by omega) (Wi.fieldAddr0 (Wl.get (b := b1) h rfl (cell h.le hr hkn (Wi.mul (by unfold I64; omega) (Wi.sub (by unfold I64; omega) (Wi.fieldAddr (Wl.get (b := b1) (o := 1) h rfl (Wi.quo (by omega) (by rw [← ek]; unfold I64; omega) (push _ ek.symm)))))))))))))))
    · have hkn : k = 2 * n + 1 := by omega
      have et : P[i].take k = P[i] := List.take_of_length_le (by omega)
      rw [et] at h
      have h := h.asData (i := 0) rfl
      have h : Ab.Loc H0 [.data RS [v] P[i], .grow RS 35 u' (P.take i), .box b [u', .int .i64 (mAt s.rows r s.v), w'], .data RS [w'] (s.bas.set r (s.v : Nat)), .box b2 [.slice none 0 0, .int .i64 0, .slice none 0 0], .box b1 [u, .int .i64 s.den, w], .lent RSS [u] s.rows, .lent RS [w] s.bas] H := h
      have hcu := (h.rd (cs := [v]) (r := RS) (x := P[i])).one
      refine Wi.fieldAddr (Wl.get (b := b) (o := 0) h rfl (Wl.pushO (r := RS) (u := v) (x := P[i]) (i := 1) (j := 0) rfl h (by decide) hcu (by simp; omega) fun H u2 h => ?_))
      have h : Ab.Loc H0 [.emp, .grow RS 35 u2 (P.take i ++ [P[i]]), .box b [u', .int .i64 (mAt s.rows r s.v), w'], .data RS [w'] (s.bas.set r (s.v : Nat)), .box b2 [.slice none 0 0, .int .i64 0, .slice none 0 0], .box b1 [u, .int .i64 s.den, w], .lent RSS [u] s.rows, .lent RS [w] s.bas] H := h
      have k3 := (h.rd (cs := [u2]) (r := RSS)).cell1
      refine Wi.fieldAddr (Wl.put (b := b) (o := 0) (i := 2) h k3 (by simp) fun H h => Wi.add (by unfold I64; omega) (hJ _ _ hin ⟨u2, rfl, ?_⟩))
      rw [List.take_succ_eq_append_getElem hiP]
      exact h.cut 0
  · have hin : i = n := by omega
    have et : P.take i = P := List.take_of_length_le (by omega)
    rw [et] at h
    have h := h.asData (i := 0) rfl
    have h : Ab.Loc H0 [.data RSS [u'] P, .box b [u', .int .i64 (mAt s.rows r s.v), w'], .data RS [w'] (s.bas.set r (s.v : Nat)), .box b2 [.slice none 0 0, .int .i64 0, .slice none 0 0], .box b1 [u, .int .i64 s.den, w], .lent RSS [u] s.rows, .lent RS [w] s.bas] H := h
    have k3 := (h.rd (cs := [u']) (r := RSS) (x := P)).cell1
    have kc : [u', .int .i64 (mAt s.rows r s.v), w'].all isCell = true := by
      rw [List.all_cons, List.all_cons, List.all_cons, List.all_nil, k3, k4]
      rfl
    refine Wi.fieldAddr (Wl.get (b := b) (o := 1) h rfl (Wi.lssC (fun q => absurd q (by omega)) fun _ => Wi.fls ?_))
    unfold f62.j2
    refine Wl.getA (b := b) h rfl (Wl.putA (b := b2) (i := 3) h rfl rfl kc fun H h => Wl.getA (b := b2) h rfl ?_)
    rw [eden, ebas] at hQ
    exact hQ _ u' w' (((h.cut 1).first 2))

end Go.Proofs.YtbcfknboheghkaaGreat

/-! The contract of the reference's mixes. No condition. -/
namespace Go.Proofs.YtbcfknboheghkaaGreat
open Go.Ab

/- loop.example/g01343/spec.l07Mixes -/
def f64.j1 (Q : Post) (i_9 : Value) (I1 : St [6, 7, 9] → Heap → Prop) (first_6' : Value) (second_7' : Value) (H : Heap) : Prop :=
  W.bin .add i_9 (.int .i64 1) H fun v8 H =>
  I1 (first_6', second_7', v8, ()) H
def f64.j2 (Q : Post) (list_0 : Value) (i_10 : Value) (out_8 : Value) (I2 : St [8, 10] → Heap → Prop) (den_11 : Value) (H : Heap) : Prop :=
  W.indexAddr 1 list_0 i_10 H fun v15 H =>
  W.get v15 H fun v16 H =>
  W.call Tryz.prog (.func (.func 102) #[] #[]) #[v16, den_11] H fun v17 H =>
  W.call Tryz.prog (.func (.func 101) #[] #[]) #[v17] H fun v18 H =>
  W.extract 0 v18 H fun v19 H =>
  W.extract 1 v18 H fun v20 H =>
  W.new [(.int .i64 0), (.int .i64 0)] 39 H fun v21 H =>
  W.putN 2 v21 v19 H fun _ H =>
  W.bin .neq v20 (.int .i64 0) H fun v22 H =>
  W.cond v22 H
  (fun H => Q (.tuple #[(.slice none 0 0), v20]) H)
  (fun H => W.getN 2 v21 H fun v23 H =>
   W.lit 1 [(.int .i64 0), (.int .i64 0)] 39 [(0, 2, v23)] H fun v24 H =>
   W.append 2 39 out_8 v24 H fun v25 H =>
   W.bin .add i_10 (.int .i64 1) H fun v26 H =>
   I2 (v25, v26, ()) H)
def f64.l2 (Q : Post) (list_0 : Value) (k_1 : Value) (first_6 : Value) (second_7 : Value) (I2 : St [8, 10] → Heap → Prop) (out_8 : Value) (i_10 : Value) (H : Heap) : Prop :=
  W.len list_0 H fun v12 H =>
  W.bin .lss i_10 v12 H fun v13 H =>
  W.cond v13 H
  (fun H => W.bin .lss i_10 k_1 H fun v14 H =>
   W.cond v14 H
   (fun H => f64.j2 Q list_0 i_10 out_8 I2 first_6 H)
   (fun H => f64.j2 Q list_0 i_10 out_8 I2 second_7 H))
  (fun H => Q (.tuple #[out_8, (.int .i64 0)]) H)
def f64.l1 (Q : Post) (list_0 : Value) (k_1 : Value) (v1 : Value) (I1 : St [6, 7, 9] → Heap → Prop) (first_6 : Value) (second_7 : Value) (i_9 : Value) (H : Heap) : Prop :=
  W.len list_0 H fun v2 H =>
  W.bin .lss i_9 v2 H fun v3 H =>
  W.cond v3 H
  (fun H => W.bin .lss i_9 k_1 H fun v4 H =>
   W.cond v4 H
   (fun H => W.indexAddr 1 list_0 i_9 H fun v5 H =>
    W.get v5 H fun v6 H =>
    W.bin .add first_6 v6 H fun v7 H =>
    f64.j1 Q i_9 I1 v7 second_7 H)
   (fun H => W.indexAddr 1 list_0 i_9 H fun v9 H =>
    W.get v9 H fun v10 H =>
    W.bin .add second_7 v10 H fun v11 H =>
    f64.j1 Q i_9 I1 first_6 v11 H))
  (fun H => W.loop (S := St [8, 10]) (fun I2 s H => f64.l2 Q list_0 k_1 first_6 second_7 I2 s.1 s.2.1 H) (v1, (.int .i64 0), ()) H)
def f64.w (Q : Post) (list_0 : Value) (k_1 : Value) (H : Heap) : Prop :=
  W.lit 0 [(.int .i64 0), (.int .i64 0)] 39 [] H fun v1 H =>
  W.loop (S := St [6, 7, 9]) (fun I1 s H => f64.l1 Q list_0 k_1 v1 I1 s.1 s.2.1 s.2.2.1 H) ((.int .i64 0), (.int .i64 0), (.int .i64 0), ()) H
theorem f64.enter {Q : Post} {list_0 : Value} {k_1 : Value} {H : Heap} (h : f64.w Q list_0 k_1 H) : Runs Tryz.prog 64 #[list_0, k_1] H Q :=
  fn_enter (ann := [(3, [6, 7, 9]), (9, [8, 10])]) (by kernel_rfl) Tryz.func64 rfl (by kernel_rfl) h (by kernel_rfl)


theorem told_frac3 {H0 : Heap} {Q : Post} {n d : Int} (hQ : ∀ H', H0.Le H' → Q (.tuple #[.agg (frC (fracT n d).1).toArray, .int .i64 (fracT n d).2]) H') : Runs Tryz.prog 101 #[.agg (frC (frac n d)).toArray] H0 Q := fn101 hQ

theorem sum_drop_step {l : List Int} {i k : Nat} (h : i < l.length) (hk : k ≤ i) : ((l.take (i + 1)).drop k).sum = ((l.take i).drop k).sum + l[i] := by
  rw [List.take_succ_eq_append_getElem h, List.drop_append_of_le_length (by simp; omega), List.sum_append]
  simp

theorem fn64 {H0 : Heap} {Q : Post} {v : Value} {z : List Int} {k : Nat} (hr : Has RS H0 [v] z) (hl : z.length ≤ 5) (hk : k ≤ z.length) (hza : ∀ x ∈ z, x.natAbs ≤ 1920000000)
    (h1 : (z.take k).sum ≠ 0) (h2 : (z.drop k).sum ≠ 0) (hQ : ∀ H' u, Fresh RFS H0 [u] (mixV k z).1 H' → Q (.tuple #[u, .int .i64 (mixV k z).2]) H') : Runs Tryz.prog 64 #[v, .int .i64 (k : Nat)] H0 Q := by
  have tsum : ∀ l : List Int, (∀ x ∈ l, x ∈ z) → l.length ≤ 5 → l.sum.natAbs ≤ 9600000000 := fun l hm hl => sum5 hl fun x hx => hza x (hm x hx)
  have ts := tsum (z.take k) (fun x hx => List.mem_of_mem_take hx) (by simp; omega)
  have ds := tsum (z.drop k) (fun x hx => List.mem_of_mem_drop hx) (by simp; omega)
  refine f64.enter ?_
  unfold f64.w
  refine Wl.lit0 (ty := 39) RFrac rfl ((Loc.start H0).lent hr) fun H v1 h => ?_
  refine W.for_rule z.length (fun i st H' => H' = H ∧ st = (.int .i64 (z.take (min i k)).sum, .int .i64 ((z.take i).drop k).sum, .int .i64 (i : Nat), ())) ⟨rfl, by simp; rfl⟩ ?_
  rintro i st H' J hi ⟨rfl, rfl⟩ hJ
  refine Wl.len h (Wi.lssC (fun hlt => Wi.tru ?_) fun hge => Wi.fls ?_)
  · have hix : i < z.length := by omega
    have hI : I64 ((i : Int) + 1) := by unfold I64; omega
    refine Wi.lssC (fun hlo => Wi.tru ?_) fun hhi => Wi.fls ?_
    · have hik : i < k := by omega
      have e1 := sum_step hix
      have b1 := tsum (z.take (i + 1)) (fun x hx => List.mem_of_mem_take hx) (by simp; omega)
      have em : min i k = i := by omega
      have em2 : min (i + 1) k = i + 1 := by omega
      have ed : (z.take (i + 1)).drop k = (z.take i).drop k := by
        rw [List.drop_of_length_le (by simp; omega), List.drop_of_length_le (by simp; omega)]
      rw [em]
      refine Wl.atInt h hix fun _ => Wi.add (by rw [← e1]; unfold I64; omega) ?_
      unfold f64.j1
      exact Wi.add hI (hJ _ _ hix ⟨rfl, by rw [em2, ed, e1]; rfl⟩)
    · have hik : k ≤ i := by omega
      have e1 := sum_drop_step hix hik
      have b1 := tsum ((z.take (i + 1)).drop k) (fun x hx => List.mem_of_mem_take (List.mem_of_mem_drop hx)) (by simp; omega)
      have em : min (i + 1) k = min i k := by omega
      refine Wl.atInt h hix fun _ => Wi.add (by rw [← e1]; unfold I64; omega) ?_
      unfold f64.j1
      exact Wi.add hI (hJ _ _ hix ⟨rfl, by rw [em, e1]; rfl⟩)
  have hie : i = z.length := by omega
  subst hie
  rw [show min z.length k = k by omega, List.take_length]
  generalize hs1 : (z.take k).sum = s1 at *
  generalize hs2 : (z.drop k).sum = s2 at *
  refine W.for_rule z.length (fun i st H => ∃ o, st = (o, .int .i64 (i : Nat), ()) ∧ Ab.Loc H0 [.grow RFrac 39 o ((List.range i).map fun j => (fracT (z.getD j 0) (if j < k then s1 else s2)).1), .lent RS [v] z] H ∧ ∀ j (hj : j < z.length), j < i → (fracT z[j] (if j < k then s1 else s2)).2 = 0) ⟨_, rfl, h, fun j _ hj => by omega⟩ ?_
  rintro i st H J hi ⟨o, rfl, h, hok⟩ hJ
  refine Wl.len h (Wi.lssC (fun hlt => Wi.tru ?_) fun hge => Wi.fls ?_)
  · have hix : i < z.length := by omega
    have hI : I64 ((i : Int) + 1) := by unfold I64; omega
    have hzi := hza _ (List.getElem_mem hix)
    have ezi : z.getD i 0 = z[i] := atD hix
    have j2 : ∀ d : Int, d = (if i < k then s1 else s2) → d.natAbs ≤ 9600000000 → d ≠ 0 → f64.j2 Q v (.int .i64 (i : Nat)) o J (.int .i64 d) H := fun d hd hda hd0 => by
      unfold f64.j2
      refine Wl.atInt h hix fun _ => Wi.call (fn102 (by unfold B64; omega) (by unfold B64; omega) hd0 fun H l => Wi.call (told_frac3 fun H2 l2 => ?_))
      have h := h.to (l.trans l2)
      simp only [gw]
      refine Wl.new h fun H b3 h => Wl.putA (vs := frC _) h rfl rfl rfl fun H h => Wi.neqC (fun hne => Wi.tru ?_) fun he => Wi.fls ?_
      · have hc := (fracT_code _ _).resolve_left hne
        have e : mixV k z = ([], 3) := by
          unfold mixV
          rw [if_neg]
          rintro ⟨g1, g2⟩
          by_cases hik : i < k
          · rw [if_pos hik] at hd
            have hil : i < (z.take k).length := by simp; omega
            have := (frAll_bad (l := z.take k) (d := d) hil (by rw [List.getElem_take]; exact hne)).1
            rw [hs1, ← hd, this] at g1
            cases g1
          · rw [if_neg hik] at hd
            have hil : i - k < (z.drop k).length := by simp; omega
            have := (frAll_bad (l := z.drop k) (d := d) hil (by
              rw [List.getElem_drop]
              have : k + (i - k) = i := by omega
              simp only [this]
              exact hne)).1
            rw [hs2, ← hd, this] at g2
            cases g2
        have := hQ H (.slice none 0 0) (by rw [e]; exact fresh_nil h.le)
        rw [e] at this
        rw [hc]
        exact this
      · refine Wl.getA h rfl (Wl.pushP (r := RFrac) (x := (fracT z[i] d).1) rfl rfl rfl (frac_rel (fracT_i64 _ _)) h.tl (by simp; omega) fun H o' h => Wi.add hI (hJ _ _ hix ⟨o', rfl, ?_, fun j hj hji => ?_⟩))
        · rw [← range_push (f := fun j => (fracT (z.getD j 0) (if j < k then s1 else s2)).1) (k := i) (x := (fracT z[i] d).1) (by rw [ezi, hd])]
          exact h
        · by_cases e : j = i
          · subst e; rw [← hd]; exact he
          · exact hok j hj (by omega)
    refine Wi.lssC (fun hlo => Wi.tru ?_) fun hhi => Wi.fls ?_
    · exact j2 s1 (by rw [if_pos (by omega)]) ts h1
    · exact j2 s2 (by rw [if_neg (by omega)]) ds h2
  · have hie : i = z.length := by omega
    subst hie
    have f1 := frAll_ok (l := z.take k) (d := s1) fun j hj => by
      have hjz : j < z.length := by simp at hj; omega
      have hjk : j < k := by simp at hj; omega
      have := hok j hjz hjz
      rw [if_pos hjk] at this
      rw [List.getElem_take]
      exact this
    have f2 := frAll_ok (l := z.drop k) (d := s2) fun j hj => by
      have hjz : k + j < z.length := by simp at hj; omega
      have := hok (k + j) hjz hjz
      rw [if_neg (by omega)] at this
      rw [List.getElem_drop]
      exact this
    have e : mixV k z = ((List.range z.length).map (fun j => (fracT (z.getD j 0) (if j < k then s1 else s2)).1), 0) := by
      unfold mixV
      rw [hs1, hs2, f1, f2, if_pos ⟨rfl, rfl⟩]
      congr 1
      apply List.ext_getElem
      · simp; omega
      · intro j h3 h4
        have hjz : j < z.length := by simpa using h4
        simp only [List.getElem_map, List.getElem_range]
        rw [atD hjz]
        by_cases hjk : j < k
        · rw [List.getElem_append_left (by simp; omega), if_pos hjk]
          simp
        · rw [List.getElem_append_right (by simp; omega), if_neg hjk]
          have : k + (j - k) = j := by omega
          simp [Nat.min_eq_left hk, this]
    have := hQ H o (by rw [e]; exact (h.asData (i := 0) rfl).ret (i := 0) rfl)
    rw [e] at this
    exact this

end Go.Proofs.YtbcfknboheghkaaGreat

/-! The contract of the reference's LemkeHowson. No condition. -/
namespace Go.Proofs.YtbcfknboheghkaaGreat
open Go.Ab

/- loop.example/g01343/spec.LemkeHowson -/
def f8.j1 (Q : Post) (k_15 : Value) (I2 : St [15] → Heap → Prop) (H : Heap) : Prop :=
  W.bin .add k_15 (.int .i64 1) H fun v63 H =>
  I2 (v63, ()) H
def f8.l2 (Q : Post) (v18 : Value) (v10 : Value) (v35 : Value) (v1 : Value) (v27 : Value) (I2 : St [15] → Heap → Prop) (k_15 : Value) (H : Heap) : Prop :=
  W.fieldAddr 2 v18 H fun v36 H =>
  W.get v36 H fun v37 H =>
  W.len v37 H fun v38 H =>
  W.bin .lss k_15 v38 H fun v39 H =>
  W.cond v39 H
  (fun H => W.fieldAddr 2 v18 H fun v40 H =>
   W.get v40 H fun v41 H =>
   W.indexAddr 1 v41 k_15 H fun v42 H =>
   W.get v42 H fun v43 H =>
   W.bin .geq v43 v10 H fun v44 H =>
   W.cond v44 H
   (fun H => W.fieldAddr 2 v18 H fun v45 H =>
    W.get v45 H fun v46 H =>
    W.indexAddr 1 v46 k_15 H fun v47 H =>
    W.get v47 H fun v48 H =>
    W.bin .sub v48 v10 H fun v49 H =>
    W.fieldAddr 0 v18 H fun v50 H =>
    W.get v50 H fun v51 H =>
    W.indexAddr 1 v51 k_15 H fun v52 H =>
    W.get v52 H fun v53 H =>
    W.fieldAddr 0 v18 H fun v54 H =>
    W.get v54 H fun v55 H =>
    W.indexAddr 1 v55 k_15 H fun v56 H =>
    W.get v56 H fun v57 H =>
    W.len v57 H fun v58 H =>
    W.bin .sub v58 (.int .i64 1) H fun v59 H =>
    W.indexAddr 1 v53 v59 H fun v60 H =>
    W.get v60 H fun v61 H =>
    W.indexAddr 1 v35 v49 H fun v62 H =>
    W.put v62 v61 H fun _ H =>
    f8.j1 Q k_15 I2 H)
   (fun H => f8.j1 Q k_15 I2 H))
  (fun H => W.fieldAddr 0 v1 H fun v64 H =>
   W.get v64 H fun v65 H =>
   W.len v65 H fun v66 H =>
   W.call Tryz.prog (.func (.func 64) #[] #[]) #[v35, v66] H fun v67 H =>
   W.extract 0 v67 H fun v68 H =>
   W.extract 1 v67 H fun v69 H =>
   W.bin .neq v69 (.int .i64 0) H fun v70 H =>
   W.cond v70 H
   (fun H => Q (.tuple #[(.slice none 0 0), (.int .i64 0), v69]) H)
   (fun H => Q (.tuple #[v68, v27, (.int .i64 0)]) H))
def f8.l1 (Q : Post) (v18 : Value) (a_1 : Value) (v10 : Value) (v1 : Value) (I1 : St [10, 11] → Heap → Prop) (enter_10 : Value) (steps_11 : Value) (H : Heap) : Prop :=
  W.getN 3 v18 H fun v19 H =>
  W.call Tryz.prog (.func (.func 61) #[] #[]) #[v19, enter_10] H fun v20 H =>
  W.fieldAddr 2 v18 H fun v21 H =>
  W.get v21 H fun v22 H =>
  W.indexAddr 1 v22 v20 H fun v23 H =>
  W.get v23 H fun v24 H =>
  W.getN 3 v18 H fun v25 H =>
  W.call Tryz.prog (.func (.func 62) #[] #[]) #[v25, v20, enter_10] H fun v26 H =>
  W.putN 3 v18 v26 H fun _ H =>
  W.bin .add steps_11 (.int .i64 1) H fun v27 H =>
  W.bin .eql v24 a_1 H fun v28 H =>
  W.guarded v28 false (fun H k => k v24 H) H fun v29 H =>
  W.guarded v28 false (fun H k => k v10 H) H fun v30 H =>
  W.guarded v28 false (fun H k => k a_1 H) H fun v31 H =>
  W.guarded v28 false (fun H k => W.bin .add v30 v31 H k) H fun v32 H =>
  W.guarded v28 false (fun H k => W.bin .eql v29 v32 H k) H fun v33 H =>
  W.pick v28 (.bool true) v33 H fun v34 H =>
  W.cond v34 H
  (fun H => W.make [(.int .i64 0)] 2 v10 v10 H fun v35 H =>
   W.loop (S := St [15]) (fun I2 s H => f8.l2 Q v18 v10 v35 v1 v27 I2 s.1 H) ((.int .i64 0), ()) H)
  (fun H => W.bin .eql v27 (.int .i64 200) H fun v71 H =>
   W.cond v71 H
   (fun H => Q (.tuple #[(.slice none 0 0), (.int .i64 0), (.int .i64 3)]) H)
   (fun H => W.call Tryz.prog (.func (.func 63) #[] #[]) #[v24, v10] H fun v72 H =>
    I1 (v72, v27, ()) H))
def f8.w (Q : Post) (g_0 : Value) (a_1 : Value) (H : Heap) : Prop :=
  W.box g_0 26 H fun v1 H =>
  W.getN 2 v1 H fun v2 H =>
  W.call Tryz.prog (.func (.func 57) #[] #[]) #[v2] H fun v3 H =>
  W.un .not v3 H fun v4 H =>
  W.cond v4 H
  (fun H => Q (.tuple #[(.slice none 0 0), (.int .i64 0), (.int .i64 1)]) H)
  (fun H => W.getN 2 v1 H fun v5 H =>
   W.call Tryz.prog (.func (.func 58) #[] #[]) #[v5] H fun v6 H =>
   W.new [(.slice none 0 0), (.slice none 0 0)] 43 H fun v7 H =>
   W.putN 2 v7 v6 H fun _ H =>
   W.fieldAddr 1 v7 H fun v8 H =>
   W.get v8 H fun v9 H =>
   W.len v9 H fun v10 H =>
   W.bin .sub v10 (.int .i64 1) H fun v11 H =>
   W.call Tryz.prog (.func (.func 59) #[] #[]) #[a_1, (.int .i64 0), v11] H fun v12 H =>
   W.un .not v12 H fun v13 H =>
   W.cond v13 H
   (fun H => Q (.tuple #[(.slice none 0 0), (.int .i64 0), (.int .i64 2)]) H)
   (fun H => W.getN 2 v7 H fun v14 H =>
    W.lit 0 [(.int .i64 0)] 2 [] H fun v15 H =>
    W.call Tryz.prog (.func (.func 60) #[] #[]) #[v14, v15] H fun v16 H =>
    W.bin .add v10 a_1 H fun v17 H =>
    W.new [(.slice none 0 0), (.int .i64 0), (.slice none 0 0)] 90 H fun v18 H =>
    W.putN 3 v18 v16 H fun _ H =>
    W.loop (S := St [10, 11]) (fun I1 s H => f8.l1 Q v18 a_1 v10 v1 I1 s.1 s.2.1 H) (v17, (.int .i64 0), ()) H))
theorem f8.enter {Q : Post} {g_0 : Value} {a_1 : Value} {H : Heap} (h : f8.w Q g_0 a_1 H) : Runs Tryz.prog 8 #[g_0, a_1] H Q :=
  fn_enter (ann := [(8, [10, 11]), (18, [15])]) (by kernel_rfl) Tryz.func8 rfl (by kernel_rfl) h (by kernel_rfl)


theorem fn8 {H0 : Heap} {Q : Post} {cs : List Value} {g : Game} {a : Int} (hr : Has RGame H0 cs g) (ha : I64 a) (hw : wGame g ≤ 1048576) (hQ : ∀ H' u, Fresh RFS H0 [u] (lhRes g a).1 H' → Q (.tuple #[u, .int .i64 (lhRes g a).2.1, .int .i64 (lhRes g a).2.2]) H') :
    Runs Tryz.prog 8 #[.agg cs.toArray, .int .i64 a] H0 Q := by
  obtain ⟨u1, u2, rfl, r1, r2⟩ := hasGame hr
  have hz : ∀ H c, H0.Le H → lhRes g a = ([], 0, c) → Q (.tuple #[.slice none 0 0, .int .i64 0, .int .i64 c]) H := fun H c l e => by
    have := hQ H (.slice none 0 0) (by rw [e]; exact fresh_nil l)
    rw [e] at this
    exact this
  have h := ((Loc.start H0).lent r1).lent hr
  refine f8.enter ?_
  unfold f8.w
  refine Wl.box (cs := [u1, u2]) h fun H b1 h => Wl.getA (b := b1) h rfl (Wi.call (fn57 (h.rd (cs := [u1, u2]) (x := g)) hw fun H t l ht => ?_))
  have h := h.to l
  cases t with
  | false =>
    simp only [gw]
    exact hz _ _ h.le (by unfold lhRes; rw [if_neg (fun q => Bool.noConfusion (ht.2 q))])
  | true =>
  have hg := ht.1 rfl
  have k1 := hg.k1
  have hnn : nG g = g.1.length + lw g := rfl
  have n5 : nG g ≤ 5 := hg.kl
  have hql : (gmP g).2.length = nG g := by simp [gmP]
  simp only [gw]
  refine Wl.getA (b := b1) h rfl (Wi.call (fn58 (h.rd (cs := [u1, u2]) (x := g)) hg fun H w1 w2 f => ?_))
  have h := h.add f
  have kp := (h.rd (cs := [w1, w2]) (r := RProblem) (x := gmP g)).cell
  have hq2 : Has RS H [w2] (gmP g).2 := by
    obtain ⟨y1, y2, e, _, q2⟩ := hasProb (h.rd (cs := [w1, w2]) (r := RProblem) (x := gmP g))
    cases e
    exact q2
  refine Wl.new h fun H7 b7 h => Wl.putA (b := b7) (i := 0) h rfl rfl kp fun H7 h => ?_
  have hq2 : Has RS H7 [w2] (gmP g).2 := by
    obtain ⟨y1, y2, e, _, q2⟩ := hasProb (h.rd (cs := [w1, w2]) (r := RProblem) (x := gmP g))
    cases e
    exact q2
  refine Wi.fieldAddr (Wl.get (b := b7) (o := 1) h rfl (Wl.lenH hq2 ?_))
  rw [hql]
  refine Wi.sub (by unfold I64; omega) (Wi.call (fn59 ?_))
  cases hin : inR 0 ((nG g : Nat) - 1 : Int) a with
  | false =>
    simp only [gw]
    refine hz _ _ h.le ?_
    unfold lhRes
    rw [if_pos hg, if_neg fun q => ?_]
    have : inR 0 ((nG g : Nat) - 1 : Int) a = true := inR_iff.2 ⟨q.1, by omega⟩
    rw [hin] at this
    cases this
  | true =>
  have hin := inR_iff.1 hin
  obtain ⟨a, rfl⟩ : ∃ k : Nat, a = (k : Int) := ⟨a.toNat, by omega⟩
  have han : a < nG g := by omega
  simp only [gw]
  refine Wl.getA (b := b7) h rfl (Wl.lit0 (ty := 2) Rd.int rfl h fun H vc h => ?_)
  have h := h.asData (i := 0) rfl
  have h : Ab.Loc H0 [.data RS [vc] [], .box b7 [w1, w2], .data RProblem [w1, w2] (gmP g), .box b1 [u1, u2], .lent RGame [u1, u2] g, .lent RSS [u1] g.1] H := h
  refine Wi.call (fn60 hg (h.rd (cs := [w1, w2]) (x := gmP g)) (h.rd (cs := [vc]) (x := ([] : List Int))) fun H u w k => ?_)
  have h : Ab.Loc H0 [.data RSS [u] (lhRows0 g), .data RS [w] (bas0 (nG g)), .data RS [vc] [], .box b7 [w1, w2], .data RProblem [w1, w2] (gmP g), .box b1 [u1, u2], .lent RGame [u1, u2] g, .lent RSS [u1] g.1] H := h.join (M' := [.data RSS [u] (lhRows0 g), .data RS [w] (bas0 (nG g))]) k fun j a hj => by
    match j, hj with
    | 0, hj => simp at hj; subst hj; exact ⟨_, rfl, fun bs h => h⟩
    | 1, hj => simp at hj; subst hj; exact ⟨_, rfl, fun bs h => h⟩
    | j + 2, hj => simp at hj
  have h := h.cut 2
  have cells : ∀ {H : Heap} {L : List (Atom H0.next)} {u w : Value} {rows : List (List Int)} {bas : List Int} {d : Int}, Ab.Loc H0 (.data RSS [u] rows :: .data RS [w] bas :: L) H → [u, .int .i64 d, w].all isCell = true := fun {H L u w rows bas d} h => by
    have k3 := (h.rd (cs := [u]) (r := RSS) (x := rows)).cell1
    have k4 := (h.tl.rd (cs := [w]) (r := RS) (x := bas)).cell1
    rw [List.all_cons, List.all_cons, List.all_cons, List.all_nil, k3, k4]
    rfl
  refine Wi.add (by unfold I64; omega) (Wl.new h fun H b h => Wl.putA (b := b) (i := 0) h rfl rfl (cells h.tl) fun H h => ?_)
  have h : Ab.Loc H0 [.box b [u, .int .i64 (lhIt g a 0).den, w], .data RSS [u] (lhIt g a 0).rows, .data RS [w] (lhIt g a 0).bas, .box b7 [w1, w2], .data RProblem [w1, w2] (gmP g), .box b1 [u1, u2], .lent RGame [u1, u2] g, .lent RSS [u1] g.1] H := h
  have inv := lh_inv hg han
  rw [show ((nG g : Nat) : Int) + ((a : Nat) : Int) = (((lhIt g a 0).v : Nat) : Int) by show _ = ((nG g + a : Nat) : Int); omega]
  refine W.for_rule 200 (fun m st H => ∃ u w, st = (.int .i64 ((lhIt g a m).v : Nat), .int .i64 (m : Nat), ()) ∧ m < 200 ∧ (∀ j, j < m → ¬ lhEnd g a j) ∧ Ab.Loc H0 [.box b [u, .int .i64 (lhIt g a m).den, w], .data RSS [u] (lhIt g a m).rows, .data RS [w] (lhIt g a m).bas, .box b7 [w1, w2], .data RProblem [w1, w2] (gmP g), .box b1 [u1, u2], .lent RGame [u1, u2] g, .lent RSS [u1] g.1] H) ⟨u, w, rfl, by omega, fun j hj => by omega, h⟩ ?_
  rintro m st H J hm ⟨u, w, rfl, hm2, hno, h⟩ hJ
  unfold f8.l1
  generalize htop : (200 : Int) = top
  have hI := inv m
  have hT := hI.rowsT hg
  obtain ⟨hl, hle2⟩ := hI.least hg
  have hv2 := hI.vl
  have hrb : lhRow (nG g) (lhIt g a m) < (lhIt g a m).bas.length := by rw [hI.bl]; exact hl.lt
  have hlb : lhLeft (nG g) (lhIt g a m) < 2 * nG g := (hI.bas hl.lt).2
  have eleft : (lhIt g a m).bas[lhRow (nG g) (lhIt g a m)] = ((lhLeft (nG g) (lhIt g a m) : Nat) : Int) := by
    rw [← atD hrb]
    exact (hI.bas hl.lt).1
  refine Wl.getA (b := b) h rfl (Wi.call (fn61 (h.rd (cs := [u]) (r := RSS) (x := (lhIt g a m).rows)) hT (v := (lhIt g a m).v) (by omega) fun H l => ?_))
  have h := h.to l
  rw [hle2]
  refine Wi.fieldAddr (Wl.get (b := b) (o := 2) h rfl (Wl.atIntH (h.rd (cs := [w]) (r := RS) (x := (lhIt g a m).bas)) hrb fun _ => ?_))
  rw [eleft]
  refine Wl.getA (b := b) h rfl (Wi.call (fn62 hg hI (h.rd (cs := [u]) (r := RSS) (x := (lhIt g a m).rows)) (h.rd (cs := [w]) (r := RS) (x := (lhIt g a m).bas)) fun H u' w' k => ?_))
  have h : Ab.Loc H0 [.data RSS [u'] (lhIt g a (m + 1)).rows, .data RS [w'] (lhIt g a (m + 1)).bas, .box b [u, .int .i64 (lhIt g a m).den, w], .data RSS [u] (lhIt g a m).rows, .data RS [w] (lhIt g a m).bas, .box b7 [w1, w2], .data RProblem [w1, w2] (gmP g), .box b1 [u1, u2], .lent RGame [u1, u2] g, .lent RSS [u1] g.1] H := h.join (M' := [.data RSS [u'] (lhIt g a (m + 1)).rows, .data RS [w'] (lhIt g a (m + 1)).bas]) k fun j a' hj => by
    match j, hj with
    | 0, hj => simp at hj; subst hj; exact ⟨_, rfl, fun bs h => h⟩
    | 1, hj => simp at hj; subst hj; exact ⟨_, rfl, fun bs h => h⟩
    | j + 2, hj => simp at hj
  refine Wl.putA (b := b) (i := 2) h rfl rfl (cells (d := (lhIt g a (m + 1)).den) h) fun H h => ?_
  have h : Ab.Loc H0 [.data RSS [u'] (lhIt g a (m + 1)).rows, .data RS [w'] (lhIt g a (m + 1)).bas, .box b [u', .int .i64 (lhIt g a (m + 1)).den, w'], .data RSS [u] (lhIt g a m).rows, .data RS [w] (lhIt g a m).bas, .box b7 [w1, w2], .data RProblem [w1, w2] (gmP g), .box b1 [u1, u2], .lent RGame [u1, u2] g, .lent RSS [u1] g.1] H := h
  have h : Ab.Loc H0 [.box b [u', .int .i64 (lhIt g a (m + 1)).den, w'], .data RSS [u'] (lhIt g a (m + 1)).rows, .data RS [w'] (lhIt g a (m + 1)).bas, .box b7 [w1, w2], .data RProblem [w1, w2] (gmP g), .box b1 [u1, u2], .lent RGame [u1, u2] g, .lent RSS [u1] g.1] H := ((h.cut 3).cut 3).front 2 rfl
  have hI2 := inv (m + 1)
  refine Wi.add (by unfold I64; omega) ?_
  rw [show ((m : Nat) : Int) + 1 = ((m + 1 : Nat) : Int) by omega]
  by_cases hend : lhEnd g a m
  · have hres := lhRes_some hg han hm2 hno hend
    obtain ⟨s1, s2⟩ := lh_parts hg han hno hend
    have hzl := zOf_len (nG g) (lhIt g a (m + 1))
    have hza : ∀ x ∈ zOf (nG g) (lhIt g a (m + 1)), x.natAbs ≤ 1920000000 := fun x hx => by have := (zOf_abs hg hI2 x hx).2; omega
    have go : W.make [.int .i64 0] 2 (.int .i64 (nG g : Nat)) (.int .i64 (nG g : Nat)) H fun v35 H => W.loop (S := St [15]) (fun I2 s H => f8.l2 Q (pt b 0) (.int .i64 (nG g : Nat)) v35 (pt b1 0) (.int .i64 ((m + 1 : Nat) : Int)) I2 s.1 H) ((.int .i64 0), ()) H := by
      refine Wl.make (r := Rd.int) (z := 0) (m := nG g) (fun _ => ⟨rfl, rfl, by unfold I64; omega⟩) h (by omega) (by decide) fun H v h => ?_
      have hT2 := hI2.rowsT hg
      have hbas := fun k (hk : k < nG g) => hI2.bas hk
      have hbl := hI2.bl
      refine W.for_rule (nG g) (fun i st H => st = (.int .i64 (i : Nat), ()) ∧ Ab.Loc H0 [.grow Rd.int 2 v (zTo (nG g) (lhIt g a (m + 1)) i), .box b [u', .int .i64 (lhIt g a (m + 1)).den, w'], .data RSS [u'] (lhIt g a (m + 1)).rows, .data RS [w'] (lhIt g a (m + 1)).bas, .box b7 [w1, w2], .data RProblem [w1, w2] (gmP g), .box b1 [u1, u2], .lent RGame [u1, u2] g, .lent RSS [u1] g.1] H) ⟨rfl, h⟩ ?_
      rintro i st H J2 hi ⟨rfl, h⟩ hJ2
      refine Wi.fieldAddr (Wl.get (b := b) (o := 2) h rfl (Wl.lenH (h.rd (cs := [w']) (r := RS) (x := (lhIt g a (m + 1)).bas)) ?_))
      rw [hbl]
      refine Wi.lssC (fun hlt => Wi.tru ?_) fun hge => Wi.fls ?_
      · have hin : i < nG g := by omega
        have hib : i < (lhIt g a (m + 1)).bas.length := by omega
        have hir : i < (lhIt g a (m + 1)).rows.length := by rw [hT2.rl]; exact hin
        have hrw := hT2.rw _ (List.getElem_mem hir)
        obtain ⟨e1, e2⟩ := hbas i hin
        have eb : (lhIt g a (m + 1)).bas[i] = ((basF (lhIt g a (m + 1)) i : Nat) : Int) := by rw [← e1, atD hib]
        have hab := hT2.ab i (2 * nG g) hin (by omega)
        have hzt := zTo_len (nG g) (lhIt g a (m + 1)) i
        refine Wi.fieldAddr (Wl.get (b := b) (o := 2) h rfl (Wl.atIntH (h.rd (cs := [w']) (r := RS) (x := (lhIt g a (m + 1)).bas)) hib fun _ => ?_))
        rw [eb]
        refine Wi.geqC (fun hc => Wi.tru ?_) fun hc => Wi.fls ?_
        · refine Wi.fieldAddr (Wl.get (b := b) (o := 2) h rfl (Wl.atIntH (h.rd (cs := [w']) (r := RS) (x := (lhIt g a (m + 1)).bas)) hib fun _ => ?_))
          rw [eb]
          refine Wi.sub (by unfold I64; omega) (Wi.fieldAddr0 (Wl.get (b := b) h rfl (Wl.at1H rfl (h.rd (cs := [u']) (r := RSS) (x := (lhIt g a (m + 1)).rows)) hir fun r hr => Wi.fieldAddr0 (Wl.get (b := b) h rfl (Wl.at1H rfl (h.rd (cs := [u']) (r := RSS) (x := (lhIt g a (m + 1)).rows)) hir fun r2 hr2 => Wl.lenH hr2 (Wi.sub (by unfold I64; omega) ?_))))))
          rw [hrw, show ((2 * nG g + 1 : Nat) : Int) - 1 = ((2 * nG g : Nat) : Int) by omega, show ((basF (lhIt g a (m + 1)) i : Nat) : Int) - ((nG g : Nat) : Int) = ((basF (lhIt g a (m + 1)) i - nG g : Nat) : Int) by omega]
          refine Wl.atIntH hr (i := 2 * nG g) (by omega) fun _ => ?_
          rw [hT2.at]
          refine Wl.setG (v := v) (j := 0) h (i := basF (lhIt g a (m + 1)) i - nG g) (by omega) (by unfold I64; omega) fun H h => ?_
          unfold f8.j1
          refine Wi.add (by unfold I64; omega) (hJ2 _ _ hin ⟨rfl, ?_⟩)
          unfold zTo
          rw [if_pos (by omega)]
          exact h
        · unfold f8.j1
          refine Wi.add (by unfold I64; omega) (hJ2 _ _ hin ⟨rfl, ?_⟩)
          unfold zTo
          rw [if_neg (by omega)]
          exact h
      · have hin : i = nG g := by omega
        subst hin
        have h := h.asData (i := 0) rfl
        have h : Ab.Loc H0 [.data RS [v] (zOf (nG g) (lhIt g a (m + 1))), .box b [u', .int .i64 (lhIt g a (m + 1)).den, w'], .data RSS [u'] (lhIt g a (m + 1)).rows, .data RS [w'] (lhIt g a (m + 1)).bas, .box b7 [w1, w2], .data RProblem [w1, w2] (gmP g), .box b1 [u1, u2], .lent RGame [u1, u2] g, .lent RSS [u1] g.1] H := h
        refine Wi.fieldAddr0 (Wl.get (b := b1) h rfl (Wl.len (v := u1) (xs := g.1) h ?_))
        refine Wi.call (fn64 (h.rd (cs := [v]) (x := zOf (nG g) (lhIt g a (m + 1)))) (by omega) (by omega) hza s1 s2 fun H x f => ?_)
        have h := h.add f
        simp only [gw]
        refine Wi.neqC (fun hne => Wi.tru ?_) fun he => Wi.fls ?_
        · exact hz _ _ h.le (by rw [hres, if_neg hne])
        · have := hQ H x (by rw [hres, if_pos he]; exact h.ret (i := 0) rfl)
          rw [hres, if_pos he] at this
          exact this
    by_cases e1 : lhLeft (nG g) (lhIt g a m) = a
    · refine Wi.eqlC (fun _ => ?_) fun q => absurd (by rw [e1]) q
      simp only [gw]
      exact go
    · have e2 := hend.resolve_left e1
      refine Wi.eqlC (fun q => absurd (by omega) e1) fun _ => ?_
      simp only [gw]
      refine Wi.add (by unfold I64; omega) (Wi.eqlC (fun _ => ?_) fun q => absurd (by rw [e2]; omega) q)
      simp only [gw]
      exact go
  · refine Wi.eqlC (fun q => absurd (.inl (by omega)) hend) fun _ => ?_
    simp only [gw]
    refine Wi.add (by unfold I64; omega) (Wi.eqlC (fun q => absurd (.inr (by omega)) hend) fun _ => ?_)
    simp only [gw]
    have hno2 : ∀ j, j < m + 1 → ¬ lhEnd g a j := fun j hj => by
      by_cases c : j = m
      · subst c; exact hend
      · exact hno j (by omega)
    refine Wi.eqlC (fun q => Wi.tru ?_) fun q => Wi.fls ?_
    · have hm3 : m + 1 = 200 := by omega
      rw [hm3] at hno2
      exact hz _ _ h.le (lhRes_none hg han hno2)
    · refine Wi.call (fn63 n5 hlb ?_)
      exact hJ _ _ hm2 ⟨u', w', rfl, by omega, hno2, h⟩

end Go.Proofs.YtbcfknboheghkaaGreat
