/- The texts of the other functions that this seat's laws reach, over the abstract heap; each is the function's own (by the kernel). No condition. -/
import Derived.Test.YtanpnljhopankaaProg
import Derived.Test.YtanpnljhopankaaZabCode
namespace Go.Proofs.Ytanpnljhopankaa
open Go.Ab

/- loop.example/g01343/laws.FnExactIsDesk -/
def f4.w (Q : Post) (aD_0 : Value) (H : Heap) : Prop :=
  W.box aD_0 34 H fun v1 H =>
  W.getN 3 v1 H fun v2 H =>
  W.call Try.prog (.func (.func 13) #[] #[]) #[v2, (.int .i64 1048576)] H fun v3 H =>
  W.bin .lss v3 (.int .i64 0) H fun v4 H =>
  W.cond v4 H
  (fun H => Q (.bool true) H)
  (fun H => W.getN 3 v1 H fun v5 H =>
   W.call Try.prog (.func (.func 15) #[] #[]) #[v5] H fun v6 H =>
   W.call Try.prog (.func (.func 14) #[] #[]) #[v6] H fun v7 H =>
   W.getN 3 v1 H fun v8 H =>
   W.call Try.prog (.func (.func 15) #[] #[]) #[v8] H fun v9 H =>
   W.new [(.slice none 0 0), (.slice none 0 0), (.int .i64 0)] 27 H fun v10 H =>
   W.putN 3 v10 v9 H fun _ H =>
   W.getN 3 v10 H fun v11 H =>
   W.call Try.prog (.func (.func 16) #[] #[]) #[v11] H fun v12 H =>
   W.eqBool .neq v12 v7 H fun v13 H =>
   W.cond v13 H
   (fun H => Q (.bool false) H)
   (fun H => W.getN 3 v10 H fun v14 H =>
    W.getN 3 v1 H fun v15 H =>
    W.callQ Try.prog (.func (.func 15) #[] #[]) #[v15] H fun v16 H =>
    W.callQ Try.prog (.func (.func 10) #[] #[]) #[v14, v16] H fun v17 H =>
    W.un .not v17 H fun v18 H =>
    W.cond v18 H
    (fun H => Q (.bool false) H)
    (fun H => Q (.bool true) H)))
theorem f4.enter {Q : Post} {aD_0 : Value} {H : Heap} (h : f4.w Q aD_0 H) : Runs Try.prog 4 #[aD_0] H Q :=
  fn_enter (ann := []) (by kernel_rfl) Try.func4 rfl (by kernel_rfl) h (by kernel_rfl)
/- loop.example/g01343/laws.FnExactIsProgram -/
def f5.w (Q : Post) (aP_0 : Value) (H : Heap) : Prop :=
  W.box aP_0 40 H fun v1 H =>
  W.getN 4 v1 H fun v2 H =>
  W.call Try.prog (.func (.func 17) #[] #[]) #[v2, (.int .i64 1048576)] H fun v3 H =>
  W.bin .lss v3 (.int .i64 0) H fun v4 H =>
  W.cond v4 H
  (fun H => Q (.bool true) H)
  (fun H => W.getN 4 v1 H fun v5 H =>
   W.call Try.prog (.func (.func 19) #[] #[]) #[v5] H fun v6 H =>
   W.call Try.prog (.func (.func 18) #[] #[]) #[v6] H fun v7 H =>
   W.getN 4 v1 H fun v8 H =>
   W.call Try.prog (.func (.func 19) #[] #[]) #[v8] H fun v9 H =>
   W.new [(.slice none 0 0), (.slice none 0 0), (.slice none 0 0), (.slice none 0 0)] 43 H fun v10 H =>
   W.putN 4 v10 v9 H fun _ H =>
   W.getN 4 v10 H fun v11 H =>
   W.call Try.prog (.func (.func 20) #[] #[]) #[v11] H fun v12 H =>
   W.eqBool .neq v12 v7 H fun v13 H =>
   W.cond v13 H
   (fun H => Q (.bool false) H)
   (fun H => W.getN 4 v10 H fun v14 H =>
    W.getN 4 v1 H fun v15 H =>
    W.callQ Try.prog (.func (.func 19) #[] #[]) #[v15] H fun v16 H =>
    W.callQ Try.prog (.func (.func 21) #[] #[]) #[v14, v16] H fun v17 H =>
    W.un .not v17 H fun v18 H =>
    W.cond v18 H
    (fun H => Q (.bool false) H)
    (fun H => Q (.bool true) H)))
theorem f5.enter {Q : Post} {aP_0 : Value} {H : Heap} (h : f5.w Q aP_0 H) : Runs Try.prog 5 #[aP_0] H Q :=
  fn_enter (ann := []) (by kernel_rfl) Try.func5 rfl (by kernel_rfl) h (by kernel_rfl)
/- loop.example/g01343/laws.FnExactScaleRow -/
def f6.w (Q : Post) (aP_0 : Value) (aI_1 : Value) (aK_2 : Value) (H : Heap) : Prop :=
  W.box aP_0 32 H fun v1 H =>
  W.getN 2 v1 H fun v2 H =>
  W.call Try.prog (.func (.func 22) #[] #[]) #[v2, (.int .i64 1048576)] H fun v3 H =>
  W.bin .lss v3 (.int .i64 0) H fun v4 H =>
  W.cond v4 H
  (fun H => Q (.bool true) H)
  (fun H => W.getN 2 v1 H fun v5 H =>
   W.call Try.prog (.func (.func 24) #[] #[]) #[v5] H fun v6 H =>
   W.call Try.prog (.func (.func 23) #[] #[]) #[v6, aI_1, aK_2] H fun v7 H =>
   W.extract 0 v7 H fun v8 H =>
   W.extract 1 v7 H fun v9 H =>
   W.new [(.slice none 0 0), (.slice none 0 0)] 25 H fun v10 H =>
   W.putN 2 v10 v8 H fun _ H =>
   W.getN 2 v1 H fun v11 H =>
   W.call Try.prog (.func (.func 24) #[] #[]) #[v11] H fun v12 H =>
   W.new [(.slice none 0 0), (.slice none 0 0)] 25 H fun v13 H =>
   W.putN 2 v13 v12 H fun _ H =>
   W.getN 2 v13 H fun v14 H =>
   W.call Try.prog (.func (.func 25) #[] #[]) #[v14, aI_1, aK_2] H fun v15 H =>
   W.extract 0 v15 H fun v16 H =>
   W.extract 1 v15 H fun v17 H =>
   W.new [(.slice none 0 0), (.slice none 0 0)] 25 H fun v18 H =>
   W.putN 2 v18 v16 H fun _ H =>
   W.getN 2 v18 H fun v19 H =>
   W.getN 2 v10 H fun v20 H =>
   W.call Try.prog (.func (.func 26) #[] #[]) #[v19, v20] H fun v21 H =>
   W.un .not v21 H fun v22 H =>
   W.guarded v22 false (fun H k => k v17 H) H fun v23 H =>
   W.guarded v22 false (fun H k => k v9 H) H fun v24 H =>
   W.guarded v22 false (fun H k => W.bin .neq v23 v24 H k) H fun v25 H =>
   W.pick v22 (.bool true) v25 H fun v26 H =>
   W.cond v26 H
   (fun H => Q (.bool false) H)
   (fun H => W.getN 2 v13 H fun v27 H =>
    W.getN 2 v1 H fun v28 H =>
    W.callQ Try.prog (.func (.func 24) #[] #[]) #[v28] H fun v29 H =>
    W.callQ Try.prog (.func (.func 26) #[] #[]) #[v27, v29] H fun v30 H =>
    W.un .not v30 H fun v31 H =>
    W.cond v31 H
    (fun H => Q (.bool false) H)
    (fun H => W.getN 2 v13 H fun v32 H =>
     W.call Try.prog (.func (.func 27) #[] #[]) #[v32, (.int .i64 1)] H fun v33 H =>
     W.bin .lss v33 (.int .i64 0) H fun v34 H =>
     W.guarded v34 false (fun H k => W.getN 2 v18 H k) H fun v35 H =>
     W.guarded v34 false (fun H k => W.getN 2 v10 H k) H fun v36 H =>
     W.guarded v34 false (fun H k => W.call Try.prog (.func (.func 26) #[] #[]) #[v35, v36] H k) H fun v37 H =>
     W.guarded v34 false (fun H k => W.un .not v37 H k) H fun v38 H =>
     W.pick v34 (.bool true) v38 H fun v39 H =>
     W.guarded v39 false (fun H k => k v17 H) H fun v40 H =>
     W.guarded v39 false (fun H k => k v9 H) H fun v41 H =>
     W.guarded v39 false (fun H k => W.bin .neq v40 v41 H k) H fun v42 H =>
     W.pick v39 (.bool true) v42 H fun v43 H =>
     W.cond v43 H
     (fun H => Q (.bool false) H)
     (fun H => W.getN 2 v18 H fun v44 H =>
      W.call Try.prog (.func (.func 27) #[] #[]) #[v44, (.int .i64 1)] H fun v45 H =>
      W.getN 2 v18 H fun v46 H =>
      W.call Try.prog (.func (.func 28) #[] #[]) #[v46, (.int .i64 1)] H fun v47 H =>
      W.bin .lss v47 (.int .i64 0) H fun v48 H =>
      W.cond v48 H
      (fun H => Q (.bool false) H)
      (fun H => W.bin .neq v47 v45 H fun v49 H =>
       W.cond v49 H
       (fun H => Q (.bool false) H)
       (fun H => W.getN 2 v1 H fun v50 H =>
        W.call Try.prog (.func (.func 24) #[] #[]) #[v50] H fun v51 H =>
        W.call Try.prog (.func (.func 25) #[] #[]) #[v51, aI_1, aK_2] H fun v52 H =>
        W.extract 0 v52 H fun v53 H =>
        W.extract 1 v52 H fun v54 H =>
        W.new [(.slice none 0 0), (.slice none 0 0)] 25 H fun v55 H =>
        W.putN 2 v55 v53 H fun _ H =>
        W.getN 2 v55 H fun v56 H =>
        W.getN 2 v10 H fun v57 H =>
        W.call Try.prog (.func (.func 26) #[] #[]) #[v56, v57] H fun v58 H =>
        W.un .not v58 H fun v59 H =>
        W.guarded v59 false (fun H k => k v54 H) H fun v60 H =>
        W.guarded v59 false (fun H k => k v9 H) H fun v61 H =>
        W.guarded v59 false (fun H k => W.bin .neq v60 v61 H k) H fun v62 H =>
        W.pick v59 (.bool true) v62 H fun v63 H =>
        W.cond v63 H
        (fun H => Q (.bool false) H)
        (fun H => W.getN 2 v18 H fun v64 H =>
         W.call Try.prog (.func (.func 28) #[] #[]) #[v64, (.int .i64 1)] H fun v65 H =>
         W.bin .lss v65 (.int .i64 0) H fun v66 H =>
         W.cond v66 H
         (fun H => Q (.bool false) H)
         (fun H => W.bin .neq v65 v45 H fun v67 H =>
          W.cond v67 H
          (fun H => Q (.bool false) H)
          (fun H => Q (.bool true) H)))))))))
theorem f6.enter {Q : Post} {aP_0 : Value} {aI_1 : Value} {aK_2 : Value} {H : Heap} (h : f6.w Q aP_0 aI_1 aK_2 H) : Runs Try.prog 6 #[aP_0, aI_1, aK_2] H Q :=
  fn_enter (ann := []) (by kernel_rfl) Try.func6 rfl (by kernel_rfl) h (by kernel_rfl)
/- loop.example/g01343/laws.FnExactRenumberProblem -/
def f7.w (Q : Post) (aP_0 : Value) (aList_1 : Value) (H : Heap) : Prop :=
  W.box aP_0 32 H fun v1 H =>
  W.len aList_1 H fun v2 H =>
  W.bin .gtr v2 (.int .i64 1048576) H fun v3 H =>
  W.cond v3 H
  (fun H => Q (.bool true) H)
  (fun H => W.getN 2 v1 H fun v4 H =>
   W.call Try.prog (.func (.func 22) #[] #[]) #[v4, (.int .i64 1048576)] H fun v5 H =>
   W.bin .lss v5 (.int .i64 0) H fun v6 H =>
   W.cond v6 H
   (fun H => Q (.bool true) H)
   (fun H => W.getN 2 v1 H fun v7 H =>
    W.call Try.prog (.func (.func 24) #[] #[]) #[v7] H fun v8 H =>
    W.call Try.prog (.func (.func 30) #[] #[]) #[aList_1] H fun v9 H =>
    W.call Try.prog (.func (.func 29) #[] #[]) #[v8, v9] H fun v10 H =>
    W.extract 0 v10 H fun v11 H =>
    W.extract 1 v10 H fun v12 H =>
    W.new [(.slice none 0 0), (.slice none 0 0)] 25 H fun v13 H =>
    W.putN 2 v13 v11 H fun _ H =>
    W.getN 2 v1 H fun v14 H =>
    W.call Try.prog (.func (.func 24) #[] #[]) #[v14] H fun v15 H =>
    W.new [(.slice none 0 0), (.slice none 0 0)] 25 H fun v16 H =>
    W.putN 2 v16 v15 H fun _ H =>
    W.call Try.prog (.func (.func 30) #[] #[]) #[aList_1] H fun v17 H =>
    W.getN 2 v16 H fun v18 H =>
    W.call Try.prog (.func (.func 31) #[] #[]) #[v18, v17] H fun v19 H =>
    W.extract 0 v19 H fun v20 H =>
    W.extract 1 v19 H fun v21 H =>
    W.new [(.slice none 0 0), (.slice none 0 0)] 25 H fun v22 H =>
    W.putN 2 v22 v20 H fun _ H =>
    W.getN 2 v22 H fun v23 H =>
    W.getN 2 v13 H fun v24 H =>
    W.call Try.prog (.func (.func 26) #[] #[]) #[v23, v24] H fun v25 H =>
    W.un .not v25 H fun v26 H =>
    W.guarded v26 false (fun H k => k v21 H) H fun v27 H =>
    W.guarded v26 false (fun H k => k v12 H) H fun v28 H =>
    W.guarded v26 false (fun H k => W.bin .neq v27 v28 H k) H fun v29 H =>
    W.pick v26 (.bool true) v29 H fun v30 H =>
    W.cond v30 H
    (fun H => Q (.bool false) H)
    (fun H => W.getN 2 v16 H fun v31 H =>
     W.getN 2 v1 H fun v32 H =>
     W.callQ Try.prog (.func (.func 24) #[] #[]) #[v32] H fun v33 H =>
     W.callQ Try.prog (.func (.func 26) #[] #[]) #[v31, v33] H fun v34 H =>
     W.un .not v34 H fun v35 H =>
     W.cond v35 H
     (fun H => Q (.bool false) H)
     (fun H => W.call Try.prog (.func (.func 30) #[] #[]) #[aList_1] H fun v36 H =>
      W.call Try.prog (.func (.func 32) #[] #[]) #[v17, v36] H fun v37 H =>
      W.un .not v37 H fun v38 H =>
      W.cond v38 H
      (fun H => Q (.bool false) H)
      (fun H => W.getN 2 v16 H fun v39 H =>
       W.call Try.prog (.func (.func 27) #[] #[]) #[v39, (.int .i64 1)] H fun v40 H =>
       W.call Try.prog (.func (.func 33) #[] #[]) #[v17, v40] H fun v41 H =>
       W.bin .lss v41 (.int .i64 0) H fun v42 H =>
       W.guarded v42 false (fun H k => W.getN 2 v22 H k) H fun v43 H =>
       W.guarded v42 false (fun H k => W.getN 2 v13 H k) H fun v44 H =>
       W.guarded v42 false (fun H k => W.call Try.prog (.func (.func 26) #[] #[]) #[v43, v44] H k) H fun v45 H =>
       W.guarded v42 false (fun H k => W.un .not v45 H k) H fun v46 H =>
       W.pick v42 (.bool true) v46 H fun v47 H =>
       W.guarded v47 false (fun H k => k v21 H) H fun v48 H =>
       W.guarded v47 false (fun H k => k v12 H) H fun v49 H =>
       W.guarded v47 false (fun H k => W.bin .neq v48 v49 H k) H fun v50 H =>
       W.pick v47 (.bool true) v50 H fun v51 H =>
       W.cond v51 H
       (fun H => Q (.bool false) H)
       (fun H => W.getN 2 v22 H fun v52 H =>
        W.call Try.prog (.func (.func 27) #[] #[]) #[v52, (.int .i64 1)] H fun v53 H =>
        W.getN 2 v22 H fun v54 H =>
        W.call Try.prog (.func (.func 28) #[] #[]) #[v54, (.int .i64 1)] H fun v55 H =>
        W.bin .lss v55 (.int .i64 0) H fun v56 H =>
        W.cond v56 H
        (fun H => Q (.bool false) H)
        (fun H => W.bin .neq v55 v53 H fun v57 H =>
         W.cond v57 H
         (fun H => Q (.bool false) H)
         (fun H => W.getN 2 v1 H fun v58 H =>
          W.call Try.prog (.func (.func 24) #[] #[]) #[v58] H fun v59 H =>
          W.call Try.prog (.func (.func 30) #[] #[]) #[aList_1] H fun v60 H =>
          W.call Try.prog (.func (.func 31) #[] #[]) #[v59, v60] H fun v61 H =>
          W.extract 0 v61 H fun v62 H =>
          W.extract 1 v61 H fun v63 H =>
          W.new [(.slice none 0 0), (.slice none 0 0)] 25 H fun v64 H =>
          W.putN 2 v64 v62 H fun _ H =>
          W.getN 2 v64 H fun v65 H =>
          W.getN 2 v13 H fun v66 H =>
          W.call Try.prog (.func (.func 26) #[] #[]) #[v65, v66] H fun v67 H =>
          W.un .not v67 H fun v68 H =>
          W.guarded v68 false (fun H k => k v63 H) H fun v69 H =>
          W.guarded v68 false (fun H k => k v12 H) H fun v70 H =>
          W.guarded v68 false (fun H k => W.bin .neq v69 v70 H k) H fun v71 H =>
          W.pick v68 (.bool true) v71 H fun v72 H =>
          W.cond v72 H
          (fun H => Q (.bool false) H)
          (fun H => W.getN 2 v22 H fun v73 H =>
           W.call Try.prog (.func (.func 28) #[] #[]) #[v73, (.int .i64 1)] H fun v74 H =>
           W.bin .lss v74 (.int .i64 0) H fun v75 H =>
           W.cond v75 H
           (fun H => Q (.bool false) H)
           (fun H => W.bin .neq v74 v53 H fun v76 H =>
            W.cond v76 H
            (fun H => Q (.bool false) H)
            (fun H => Q (.bool true) H)))))))))))
theorem f7.enter {Q : Post} {aP_0 : Value} {aList_1 : Value} {H : Heap} (h : f7.w Q aP_0 aList_1 H) : Runs Try.prog 7 #[aP_0, aList_1] H Q :=
  fn_enter (ann := []) (by kernel_rfl) Try.func7 rfl (by kernel_rfl) h (by kernel_rfl)
/- loop.example/g01343/laws.szDesk -/
def f13.w (Q : Post) (a_0 : Value) (left_1 : Value) (H : Heap) : Prop :=
  W.box a_0 34 H fun v1 H =>
  W.fieldAddr 0 v1 H fun v2 H =>
  W.getN 2 v2 H fun v3 H =>
  W.call Try.prog (.func (.func 22) #[] #[]) #[v3, left_1] H fun v4 H =>
  W.bin .lss v4 (.int .i64 0) H fun v5 H =>
  W.cond v5 H
  (fun H => Q (.int .i64 (-1)) H)
  (fun H => Q v4 H)
theorem f13.enter {Q : Post} {a_0 : Value} {left_1 : Value} {H : Heap} (h : f13.w Q a_0 left_1 H) : Runs Try.prog 13 #[a_0, left_1] H Q :=
  fn_enter (ann := []) (by kernel_rfl) Try.func13 rfl (by kernel_rfl) h (by kernel_rfl)
/- loop.example/g01343/spec.IsDesk -/
def f14.w (Q : Post) (d_0 : Value) (H : Heap) : Prop :=
  W.box d_0 27 H fun v1 H =>
  W.fieldAddr 0 v1 H fun v2 H =>
  W.getN 2 v2 H fun v3 H =>
  W.fieldAddr 2 v1 H fun v4 H =>
  W.get v4 H fun v5 H =>
  W.call Try.prog (.func (.func 35) #[] #[]) #[v3, v5] H fun v6 H =>
  W.bin .eql v6 (.int .i64 0) H fun v7 H =>
  Q v7 H
theorem f14.enter {Q : Post} {d_0 : Value} {H : Heap} (h : f14.w Q d_0 H) : Runs Try.prog 14 #[d_0] H Q :=
  fn_enter (ann := []) (by kernel_rfl) Try.func14 rfl (by kernel_rfl) h (by kernel_rfl)
/- loop.example/g01343/laws.toDesk -/
def f15.w (Q : Post) (a_0 : Value) (H : Heap) : Prop :=
  W.box a_0 34 H fun v1 H =>
  W.new [(.slice none 0 0), (.slice none 0 0), (.int .i64 0)] 27 H fun v2 H =>
  W.new [(.slice none 0 0), (.slice none 0 0), (.int .i64 0)] 27 H fun v3 H =>
  W.fieldAddr 0 v1 H fun v4 H =>
  W.getN 2 v4 H fun v5 H =>
  W.call Try.prog (.func (.func 24) #[] #[]) #[v5] H fun v6 H =>
  W.fieldAddr 0 v3 H fun v7 H =>
  W.putN 2 v7 v6 H fun _ H =>
  W.fieldAddr 2 v1 H fun v8 H =>
  W.get v8 H fun v9 H =>
  W.fieldAddr 2 v3 H fun v10 H =>
  W.put v10 v9 H fun _ H =>
  W.getN 3 v3 H fun v11 H =>
  W.putN 3 v2 v11 H fun _ H =>
  W.getN 3 v2 H fun v12 H => Q v12 H
theorem f15.enter {Q : Post} {a_0 : Value} {H : Heap} (h : f15.w Q a_0 H) : Runs Try.prog 15 #[a_0] H Q :=
  fn_enter (ann := []) (by kernel_rfl) Try.func15 rfl (by kernel_rfl) h (by kernel_rfl)
/- loop.example/g01343/impl.IsDesk -/
def f16.w (Q : Post) (d_0 : Value) (H : Heap) : Prop :=
  W.box d_0 27 H fun v1 H =>
  W.fieldAddr 0 v1 H fun v2 H =>
  W.getN 2 v2 H fun v3 H =>
  W.call Try.prog (.func (.func 36) #[] #[]) #[v3] H fun v4 H =>
  W.guarded v4 true (fun H k => W.fieldAddr 2 v1 H k) H fun v5 H =>
  W.guarded v4 true (fun H k => W.get v5 H k) H fun v6 H =>
  W.guarded v4 true (fun H k => W.fieldAddr 0 v1 H k) H fun v7 H =>
  W.guarded v4 true (fun H k => W.fieldAddr 1 v7 H k) H fun v8 H =>
  W.guarded v4 true (fun H k => W.get v8 H k) H fun v9 H =>
  W.guarded v4 true (fun H k => W.len v9 H k) H fun v10 H =>
  W.guarded v4 true (fun H k => W.call Try.prog (.func (.func 37) #[] #[]) #[v6, v10] H k) H fun v11 H =>
  W.pick v4 v11 (.bool false) H fun v12 H =>
  Q v12 H
theorem f16.enter {Q : Post} {d_0 : Value} {H : Heap} (h : f16.w Q d_0 H) : Runs Try.prog 16 #[d_0] H Q :=
  fn_enter (ann := []) (by kernel_rfl) Try.func16 rfl (by kernel_rfl) h (by kernel_rfl)
/- loop.example/g01343/laws.szProgram -/
def f17.w (Q : Post) (a_0 : Value) (left_1 : Value) (H : Heap) : Prop :=
  W.box a_0 40 H fun v1 H =>
  W.fieldAddr 0 v1 H fun v2 H =>
  W.get v2 H fun v3 H =>
  W.call Try.prog (.func (.func 38) #[] #[]) #[v3, left_1] H fun v4 H =>
  W.bin .lss v4 (.int .i64 0) H fun v5 H =>
  W.cond v5 H
  (fun H => Q (.int .i64 (-1)) H)
  (fun H => W.fieldAddr 1 v1 H fun v6 H =>
   W.get v6 H fun v7 H =>
   W.call Try.prog (.func (.func 39) #[] #[]) #[v7, v4] H fun v8 H =>
   W.bin .lss v8 (.int .i64 0) H fun v9 H =>
   W.cond v9 H
   (fun H => Q (.int .i64 (-1)) H)
   (fun H => W.fieldAddr 2 v1 H fun v10 H =>
    W.get v10 H fun v11 H =>
    W.call Try.prog (.func (.func 38) #[] #[]) #[v11, v8] H fun v12 H =>
    W.bin .lss v12 (.int .i64 0) H fun v13 H =>
    W.cond v13 H
    (fun H => Q (.int .i64 (-1)) H)
    (fun H => W.fieldAddr 3 v1 H fun v14 H =>
     W.get v14 H fun v15 H =>
     W.call Try.prog (.func (.func 39) #[] #[]) #[v15, v12] H fun v16 H =>
     W.bin .lss v16 (.int .i64 0) H fun v17 H =>
     W.cond v17 H
     (fun H => Q (.int .i64 (-1)) H)
     (fun H => Q v16 H))))
theorem f17.enter {Q : Post} {a_0 : Value} {left_1 : Value} {H : Heap} (h : f17.w Q a_0 left_1 H) : Runs Try.prog 17 #[a_0, left_1] H Q :=
  fn_enter (ann := []) (by kernel_rfl) Try.func17 rfl (by kernel_rfl) h (by kernel_rfl)
/- loop.example/g01343/spec.IsProgram -/
def f18.w (Q : Post) (p_0 : Value) (H : Heap) : Prop :=
  W.box p_0 43 H fun v1 H =>
  W.getN 4 v1 H fun v2 H =>
  W.call Try.prog (.func (.func 40) #[] #[]) #[v2] H fun v3 H =>
  Q v3 H
theorem f18.enter {Q : Post} {p_0 : Value} {H : Heap} (h : f18.w Q p_0 H) : Runs Try.prog 18 #[p_0] H Q :=
  fn_enter (ann := []) (by kernel_rfl) Try.func18 rfl (by kernel_rfl) h (by kernel_rfl)
/- loop.example/g01343/laws.toProgram -/
def f19.w (Q : Post) (a_0 : Value) (H : Heap) : Prop :=
  W.box a_0 40 H fun v1 H =>
  W.new [(.slice none 0 0), (.slice none 0 0), (.slice none 0 0), (.slice none 0 0)] 43 H fun v2 H =>
  W.new [(.slice none 0 0), (.slice none 0 0), (.slice none 0 0), (.slice none 0 0)] 43 H fun v3 H =>
  W.fieldAddr 0 v1 H fun v4 H =>
  W.get v4 H fun v5 H =>
  W.call Try.prog (.func (.func 41) #[] #[]) #[v5] H fun v6 H =>
  W.fieldAddr 0 v3 H fun v7 H =>
  W.put v7 v6 H fun _ H =>
  W.fieldAddr 1 v1 H fun v8 H =>
  W.get v8 H fun v9 H =>
  W.call Try.prog (.func (.func 30) #[] #[]) #[v9] H fun v10 H =>
  W.fieldAddr 1 v3 H fun v11 H =>
  W.put v11 v10 H fun _ H =>
  W.fieldAddr 2 v1 H fun v12 H =>
  W.get v12 H fun v13 H =>
  W.call Try.prog (.func (.func 41) #[] #[]) #[v13] H fun v14 H =>
  W.fieldAddr 2 v3 H fun v15 H =>
  W.put v15 v14 H fun _ H =>
  W.fieldAddr 3 v1 H fun v16 H =>
  W.get v16 H fun v17 H =>
  W.call Try.prog (.func (.func 30) #[] #[]) #[v17] H fun v18 H =>
  W.fieldAddr 3 v3 H fun v19 H =>
  W.put v19 v18 H fun _ H =>
  W.getN 4 v3 H fun v20 H =>
  W.putN 4 v2 v20 H fun _ H =>
  W.getN 4 v2 H fun v21 H => Q v21 H
theorem f19.enter {Q : Post} {a_0 : Value} {H : Heap} (h : f19.w Q a_0 H) : Runs Try.prog 19 #[a_0] H Q :=
  fn_enter (ann := []) (by kernel_rfl) Try.func19 rfl (by kernel_rfl) h (by kernel_rfl)
/- loop.example/g01343/impl.IsProgram -/
def f20.l1 (Q : Post) (v42 : Value) (v41 : Value) (v4 : Value) (v1 : Value) (I1 : St [54] → Heap → Prop) (x_54 : Value) (H : Heap) : Prop :=
  W.bin .lss x_54 v42 H fun v43 H =>
  W.cond v43 H
  (fun H => W.indexAddr 1 v41 x_54 H fun v44 H =>
   W.get v44 H fun v45 H =>
   W.len v45 H fun v46 H =>
   W.bin .neq v46 v4 H fun v47 H =>
   W.guarded v47 false (fun H k => k v45 H) H fun v48 H =>
   W.guarded v47 false (fun H k => W.call Try.prog (.func (.func 43) #[] #[]) #[v48, (.int .i64 20)] H k) H fun v49 H =>
   W.guarded v47 false (fun H k => W.un .not v49 H k) H fun v50 H =>
   W.pick v47 (.bool true) v50 H fun v51 H =>
   W.cond v51 H
   (fun H => Q (.bool false) H)
   (fun H => W.bin .add x_54 (.int .i64 1) H fun v52 H =>
    I1 (v52, ()) H))
  (fun H => W.fieldAddr 0 v1 H fun v53 H =>
   W.get v53 H fun v54 H =>
   W.call Try.prog (.func (.func 45) #[] #[]) #[v54, (.func (.func 46) #[] #[v1])] H fun v55 H =>
   Q v55 H)
def f20.w (Q : Post) (p_0 : Value) (H : Heap) : Prop :=
  W.box p_0 43 H fun v1 H =>
  W.fieldAddr 1 v1 H fun v2 H =>
  W.get v2 H fun v3 H =>
  W.len v3 H fun v4 H =>
  W.fieldAddr 3 v1 H fun v5 H =>
  W.get v5 H fun v6 H =>
  W.len v6 H fun v7 H =>
  W.bin .lss v4 (.int .i64 1) H fun v8 H =>
  W.guarded v8 false (fun H k => k v4 H) H fun v9 H =>
  W.guarded v8 false (fun H k => k v7 H) H fun v10 H =>
  W.guarded v8 false (fun H k => W.bin .add v9 v10 H k) H fun v11 H =>
  W.guarded v8 false (fun H k => W.bin .gtr v11 (.int .i64 5) H k) H fun v12 H =>
  W.pick v8 (.bool true) v12 H fun v13 H =>
  W.guarded v13 false (fun H k => W.fieldAddr 2 v1 H k) H fun v14 H =>
  W.guarded v13 false (fun H k => W.get v14 H k) H fun v15 H =>
  W.guarded v13 false (fun H k => W.len v15 H k) H fun v16 H =>
  W.guarded v13 false (fun H k => k v7 H) H fun v17 H =>
  W.guarded v13 false (fun H k => W.bin .neq v16 v17 H k) H fun v18 H =>
  W.pick v13 (.bool true) v18 H fun v19 H =>
  W.guarded v19 false (fun H k => W.fieldAddr 0 v1 H k) H fun v20 H =>
  W.guarded v19 false (fun H k => W.get v20 H k) H fun v21 H =>
  W.guarded v19 false (fun H k => k v4 H) H fun v22 H =>
  W.guarded v19 false (fun H k => W.call Try.prog (.func (.func 42) #[] #[]) #[v21, v22] H k) H fun v23 H =>
  W.guarded v19 false (fun H k => W.un .not v23 H k) H fun v24 H =>
  W.pick v19 (.bool true) v24 H fun v25 H =>
  W.guarded v25 false (fun H k => W.fieldAddr 1 v1 H k) H fun v26 H =>
  W.guarded v25 false (fun H k => W.get v26 H k) H fun v27 H =>
  W.guarded v25 false (fun H k => W.call Try.prog (.func (.func 43) #[] #[]) #[v27, (.int .i64 100)] H k) H fun v28 H =>
  W.guarded v25 false (fun H k => W.un .not v28 H k) H fun v29 H =>
  W.pick v25 (.bool true) v29 H fun v30 H =>
  W.guarded v30 false (fun H k => W.fieldAddr 3 v1 H k) H fun v31 H =>
  W.guarded v30 false (fun H k => W.get v31 H k) H fun v32 H =>
  W.guarded v30 false (fun H k => W.call Try.prog (.func (.func 43) #[] #[]) #[v32, (.int .i64 100)] H k) H fun v33 H =>
  W.guarded v30 false (fun H k => W.un .not v33 H k) H fun v34 H =>
  W.pick v30 (.bool true) v34 H fun v35 H =>
  W.cond v35 H
  (fun H => Q (.bool false) H)
  (fun H => W.fieldAddr 0 v1 H fun v36 H =>
   W.get v36 H fun v37 H =>
   W.fieldAddr 2 v1 H fun v38 H =>
   W.get v38 H fun v39 H =>
   W.lit 2 [(.slice none 0 0)] 22 [(0, 1, v37), (1, 1, v39)] H fun v40 H =>
   W.call Try.prog (.func (.func 44) #[] #[]) #[v40] H fun v41 H =>
   W.len v41 H fun v42 H =>
   W.loop (S := St [54]) (fun I1 s H => f20.l1 Q v42 v41 v4 v1 I1 s.1 H) ((.int .i64 0), ()) H)
theorem f20.enter {Q : Post} {p_0 : Value} {H : Heap} (h : f20.w Q p_0 H) : Runs Try.prog 20 #[p_0] H Q :=
  fn_enter (ann := [(5, [54])]) (by kernel_rfl) Try.func20 rfl (by kernel_rfl) h (by kernel_rfl)
/- loop.example/g01343/laws.eqProgram -/
def f21.w (Q : Post) (a_0 : Value) (b_1 : Value) (H : Heap) : Prop :=
  W.box a_0 43 H fun v1 H =>
  W.box b_1 43 H fun v2 H =>
  W.fieldAddr 0 v1 H fun v3 H =>
  W.get v3 H fun v4 H =>
  W.fieldAddr 0 v2 H fun v5 H =>
  W.get v5 H fun v6 H =>
  W.call Try.prog (.func (.func 47) #[] #[]) #[v4, v6] H fun v7 H =>
  W.un .not v7 H fun v8 H =>
  W.cond v8 H
  (fun H => Q (.bool false) H)
  (fun H => W.fieldAddr 1 v1 H fun v9 H =>
   W.get v9 H fun v10 H =>
   W.fieldAddr 1 v2 H fun v11 H =>
   W.get v11 H fun v12 H =>
   W.call Try.prog (.func (.func 32) #[] #[]) #[v10, v12] H fun v13 H =>
   W.un .not v13 H fun v14 H =>
   W.cond v14 H
   (fun H => Q (.bool false) H)
   (fun H => W.fieldAddr 2 v1 H fun v15 H =>
    W.get v15 H fun v16 H =>
    W.fieldAddr 2 v2 H fun v17 H =>
    W.get v17 H fun v18 H =>
    W.call Try.prog (.func (.func 47) #[] #[]) #[v16, v18] H fun v19 H =>
    W.un .not v19 H fun v20 H =>
    W.cond v20 H
    (fun H => Q (.bool false) H)
    (fun H => W.fieldAddr 3 v1 H fun v21 H =>
     W.get v21 H fun v22 H =>
     W.fieldAddr 3 v2 H fun v23 H =>
     W.get v23 H fun v24 H =>
     W.call Try.prog (.func (.func 32) #[] #[]) #[v22, v24] H fun v25 H =>
     W.un .not v25 H fun v26 H =>
     W.cond v26 H
     (fun H => Q (.bool false) H)
     (fun H => Q (.bool true) H))))
theorem f21.enter {Q : Post} {a_0 : Value} {b_1 : Value} {H : Heap} (h : f21.w Q a_0 b_1 H) : Runs Try.prog 21 #[a_0, b_1] H Q :=
  fn_enter (ann := []) (by kernel_rfl) Try.func21 rfl (by kernel_rfl) h (by kernel_rfl)
/- loop.example/g01343/laws.szProblem -/
def f22.w (Q : Post) (a_0 : Value) (left_1 : Value) (H : Heap) : Prop :=
  W.box a_0 32 H fun v1 H =>
  W.fieldAddr 0 v1 H fun v2 H =>
  W.get v2 H fun v3 H =>
  W.call Try.prog (.func (.func 38) #[] #[]) #[v3, left_1] H fun v4 H =>
  W.bin .lss v4 (.int .i64 0) H fun v5 H =>
  W.cond v5 H
  (fun H => Q (.int .i64 (-1)) H)
  (fun H => W.fieldAddr 1 v1 H fun v6 H =>
   W.get v6 H fun v7 H =>
   W.call Try.prog (.func (.func 39) #[] #[]) #[v7, v4] H fun v8 H =>
   W.bin .lss v8 (.int .i64 0) H fun v9 H =>
   W.cond v9 H
   (fun H => Q (.int .i64 (-1)) H)
   (fun H => Q v8 H))
theorem f22.enter {Q : Post} {a_0 : Value} {left_1 : Value} {H : Heap} (h : f22.w Q a_0 left_1 H) : Runs Try.prog 22 #[a_0, left_1] H Q :=
  fn_enter (ann := []) (by kernel_rfl) Try.func22 rfl (by kernel_rfl) h (by kernel_rfl)
/- loop.example/g01343/spec.ScaleRow -/
def f23.l1 (Q : Post) (v26 : Value) (k_2 : Value) (v22 : Value) (i_1 : Value) (v2 : Value) (I1 : St [10] → Heap → Prop) (j_10 : Value) (H : Heap) : Prop :=
  W.len v26 H fun v27 H =>
  W.bin .lss j_10 v27 H fun v28 H =>
  W.cond v28 H
  (fun H => W.indexAddr 1 v26 j_10 H fun v29 H =>
   W.get v29 H fun v30 H =>
   W.bin .mul k_2 v30 H fun v31 H =>
   W.indexAddr 1 v26 j_10 H fun v32 H =>
   W.put v32 v31 H fun _ H =>
   W.bin .add j_10 (.int .i64 1) H fun v33 H =>
   I1 (v33, ()) H)
  (fun H => W.fieldAddr 1 v22 H fun v34 H =>
   W.get v34 H fun v35 H =>
   W.fieldAddr 1 v22 H fun v36 H =>
   W.get v36 H fun v37 H =>
   W.indexAddr 1 v37 i_1 H fun v38 H =>
   W.get v38 H fun v39 H =>
   W.bin .mul k_2 v39 H fun v40 H =>
   W.indexAddr 1 v35 i_1 H fun v41 H =>
   W.put v41 v40 H fun _ H =>
   W.getN 2 v22 H fun v42 H =>
   W.call Try.prog (.func (.func 48) #[] #[]) #[v42] H fun v43 H =>
   W.un .not v43 H fun v44 H =>
   W.cond v44 H
   (fun H => W.build [(.slice none 0 0), (.slice none 0 0)] [] H fun v45 H =>
    W.putN 2 v2 v45 H fun _ H =>
    W.getN 2 v2 H fun v46 H => Q (.tuple #[v46, (.int .i64 3)]) H)
   (fun H => W.getN 2 v22 H fun v47 H =>
    W.putN 2 v2 v47 H fun _ H =>
    W.getN 2 v2 H fun v48 H => Q (.tuple #[v48, (.int .i64 0)]) H))
def f23.w (Q : Post) (p_0 : Value) (i_1 : Value) (k_2 : Value) (H : Heap) : Prop :=
  W.box p_0 25 H fun v1 H =>
  W.new [(.slice none 0 0), (.slice none 0 0)] 25 H fun v2 H =>
  W.getN 2 v1 H fun v3 H =>
  W.call Try.prog (.func (.func 48) #[] #[]) #[v3] H fun v4 H =>
  W.un .not v4 H fun v5 H =>
  W.cond v5 H
  (fun H => W.build [(.slice none 0 0), (.slice none 0 0)] [] H fun v6 H =>
   W.putN 2 v2 v6 H fun _ H =>
   W.getN 2 v2 H fun v7 H => Q (.tuple #[v7, (.int .i64 1)]) H)
  (fun H => W.fieldAddr 1 v1 H fun v8 H =>
   W.get v8 H fun v9 H =>
   W.len v9 H fun v10 H =>
   W.bin .sub v10 (.int .i64 1) H fun v11 H =>
   W.call Try.prog (.func (.func 49) #[] #[]) #[i_1, (.int .i64 0), v11] H fun v12 H =>
   W.un .not v12 H fun v13 H =>
   W.guarded v13 false (fun H k => k k_2 H) H fun v14 H =>
   W.guarded v13 false (fun H k => W.call Try.prog (.func (.func 49) #[] #[]) #[v14, (.int .i64 1), (.int .i64 100)] H k) H fun v15 H =>
   W.guarded v13 false (fun H k => W.un .not v15 H k) H fun v16 H =>
   W.pick v13 (.bool true) v16 H fun v17 H =>
   W.cond v17 H
   (fun H => W.build [(.slice none 0 0), (.slice none 0 0)] [] H fun v18 H =>
    W.putN 2 v2 v18 H fun _ H =>
    W.getN 2 v2 H fun v19 H => Q (.tuple #[v19, (.int .i64 2)]) H)
   (fun H => W.getN 2 v1 H fun v20 H =>
    W.call Try.prog (.func (.func 50) #[] #[]) #[v20] H fun v21 H =>
    W.new [(.slice none 0 0), (.slice none 0 0)] 25 H fun v22 H =>
    W.putN 2 v22 v21 H fun _ H =>
    W.fieldAddr 0 v22 H fun v23 H =>
    W.get v23 H fun v24 H =>
    W.indexAddr 1 v24 i_1 H fun v25 H =>
    W.get v25 H fun v26 H =>
    W.loop (S := St [10]) (fun I1 s H => f23.l1 Q v26 k_2 v22 i_1 v2 I1 s.1 H) ((.int .i64 0), ()) H))
theorem f23.enter {Q : Post} {p_0 : Value} {i_1 : Value} {k_2 : Value} {H : Heap} (h : f23.w Q p_0 i_1 k_2 H) : Runs Try.prog 23 #[p_0, i_1, k_2] H Q :=
  fn_enter (ann := [(8, [10])]) (by kernel_rfl) Try.func23 rfl (by kernel_rfl) h (by kernel_rfl)
/- loop.example/g01343/laws.toProblem -/
def f24.w (Q : Post) (a_0 : Value) (H : Heap) : Prop :=
  W.box a_0 32 H fun v1 H =>
  W.new [(.slice none 0 0), (.slice none 0 0)] 25 H fun v2 H =>
  W.new [(.slice none 0 0), (.slice none 0 0)] 25 H fun v3 H =>
  W.fieldAddr 0 v1 H fun v4 H =>
  W.get v4 H fun v5 H =>
  W.call Try.prog (.func (.func 41) #[] #[]) #[v5] H fun v6 H =>
  W.fieldAddr 0 v3 H fun v7 H =>
  W.put v7 v6 H fun _ H =>
  W.fieldAddr 1 v1 H fun v8 H =>
  W.get v8 H fun v9 H =>
  W.call Try.prog (.func (.func 30) #[] #[]) #[v9] H fun v10 H =>
  W.fieldAddr 1 v3 H fun v11 H =>
  W.put v11 v10 H fun _ H =>
  W.getN 2 v3 H fun v12 H =>
  W.putN 2 v2 v12 H fun _ H =>
  W.getN 2 v2 H fun v13 H => Q v13 H
theorem f24.enter {Q : Post} {a_0 : Value} {H : Heap} (h : f24.w Q a_0 H) : Runs Try.prog 24 #[a_0] H Q :=
  fn_enter (ann := []) (by kernel_rfl) Try.func24 rfl (by kernel_rfl) h (by kernel_rfl)
/- loop.example/g01343/impl.ScaleRow -/
def f25.l1 (Q : Post) (v33 : Value) (v22 : Value) (i_1 : Value) (k_2 : Value) (v2 : Value) (I1 : St [43] → Heap → Prop) (x_43 : Value) (H : Heap) : Prop :=
  W.bin .lss x_43 v33 H fun v34 H =>
  W.cond v34 H
  (fun H => W.fieldAddr 0 v22 H fun v35 H =>
   W.get v35 H fun v36 H =>
   W.indexAddr 1 v36 i_1 H fun v37 H =>
   W.get v37 H fun v38 H =>
   W.indexAddr 1 v38 x_43 H fun v39 H =>
   W.get v39 H fun v40 H =>
   W.bin .mul v40 k_2 H fun v41 H =>
   W.indexAddr 1 v38 x_43 H fun v42 H =>
   W.put v42 v41 H fun _ H =>
   W.bin .add x_43 (.int .i64 1) H fun v43 H =>
   I1 (v43, ()) H)
  (fun H => W.getN 2 v22 H fun v44 H =>
   W.call Try.prog (.func (.func 53) #[] #[]) #[v44] H fun v45 H =>
   W.extract 0 v45 H fun v46 H =>
   W.extract 1 v45 H fun v47 H =>
   W.putN 2 v2 v46 H fun _ H =>
   W.getN 2 v2 H fun v48 H => Q (.tuple #[v48, v47]) H)
def f25.w (Q : Post) (p_0 : Value) (i_1 : Value) (k_2 : Value) (H : Heap) : Prop :=
  W.box p_0 25 H fun v1 H =>
  W.new [(.slice none 0 0), (.slice none 0 0)] 25 H fun v2 H =>
  W.getN 2 v1 H fun v3 H =>
  W.call Try.prog (.func (.func 36) #[] #[]) #[v3] H fun v4 H =>
  W.un .not v4 H fun v5 H =>
  W.cond v5 H
  (fun H => W.build [(.slice none 0 0), (.slice none 0 0)] [] H fun v6 H =>
   W.putN 2 v2 v6 H fun _ H =>
   W.getN 2 v2 H fun v7 H => Q (.tuple #[v7, (.int .i64 1)]) H)
  (fun H => W.fieldAddr 1 v1 H fun v8 H =>
   W.get v8 H fun v9 H =>
   W.len v9 H fun v10 H =>
   W.bin .sub v10 (.int .i64 1) H fun v11 H =>
   W.call Try.prog (.func (.func 51) #[] #[]) #[i_1, (.int .i64 0), v11] H fun v12 H =>
   W.un .not v12 H fun v13 H =>
   W.guarded v13 false (fun H k => k k_2 H) H fun v14 H =>
   W.guarded v13 false (fun H k => W.call Try.prog (.func (.func 51) #[] #[]) #[v14, (.int .i64 1), (.int .i64 100)] H k) H fun v15 H =>
   W.guarded v13 false (fun H k => W.un .not v15 H k) H fun v16 H =>
   W.pick v13 (.bool true) v16 H fun v17 H =>
   W.cond v17 H
   (fun H => W.build [(.slice none 0 0), (.slice none 0 0)] [] H fun v18 H =>
    W.putN 2 v2 v18 H fun _ H =>
    W.getN 2 v2 H fun v19 H => Q (.tuple #[v19, (.int .i64 2)]) H)
   (fun H => W.getN 2 v1 H fun v20 H =>
    W.call Try.prog (.func (.func 52) #[] #[]) #[v20] H fun v21 H =>
    W.new [(.slice none 0 0), (.slice none 0 0)] 25 H fun v22 H =>
    W.putN 2 v22 v21 H fun _ H =>
    W.fieldAddr 1 v22 H fun v23 H =>
    W.get v23 H fun v24 H =>
    W.indexAddr 1 v24 i_1 H fun v25 H =>
    W.get v25 H fun v26 H =>
    W.bin .mul v26 k_2 H fun v27 H =>
    W.indexAddr 1 v24 i_1 H fun v28 H =>
    W.put v28 v27 H fun _ H =>
    W.fieldAddr 0 v22 H fun v29 H =>
    W.get v29 H fun v30 H =>
    W.indexAddr 1 v30 i_1 H fun v31 H =>
    W.get v31 H fun v32 H =>
    W.len v32 H fun v33 H =>
    W.loop (S := St [43]) (fun I1 s H => f25.l1 Q v33 v22 i_1 k_2 v2 I1 s.1 H) ((.int .i64 0), ()) H))
theorem f25.enter {Q : Post} {p_0 : Value} {i_1 : Value} {k_2 : Value} {H : Heap} (h : f25.w Q p_0 i_1 k_2 H) : Runs Try.prog 25 #[p_0, i_1, k_2] H Q :=
  fn_enter (ann := [(8, [43])]) (by kernel_rfl) Try.func25 rfl (by kernel_rfl) h (by kernel_rfl)
/- loop.example/g01343/spec.RenumberProblem -/
def f29.l2 (Q : Post) (v1 : Value) (list_1 : Value) (i_7 : Value) (v27 : Value) (v17 : Value) (I1 : St [7] → Heap → Prop) (I2 : St [9] → Heap → Prop) (k_9 : Value) (H : Heap) : Prop :=
  W.fieldAddr 1 v1 H fun v28 H =>
  W.get v28 H fun v29 H =>
  W.len v29 H fun v30 H =>
  W.bin .lss k_9 v30 H fun v31 H =>
  W.cond v31 H
  (fun H => W.indexAddr 1 list_1 k_9 H fun v32 H =>
   W.get v32 H fun v33 H =>
   W.fieldAddr 0 v1 H fun v34 H =>
   W.get v34 H fun v35 H =>
   W.indexAddr 1 v35 i_7 H fun v36 H =>
   W.get v36 H fun v37 H =>
   W.indexAddr 1 v37 k_9 H fun v38 H =>
   W.get v38 H fun v39 H =>
   W.indexAddr 1 v27 v33 H fun v40 H =>
   W.put v40 v39 H fun _ H =>
   W.bin .add k_9 (.int .i64 1) H fun v41 H =>
   I2 (v41, ()) H)
  (fun H => W.fieldAddr 1 v17 H fun v42 H =>
   W.get v42 H fun v43 H =>
   W.indexAddr 1 list_1 i_7 H fun v44 H =>
   W.get v44 H fun v45 H =>
   W.fieldAddr 1 v1 H fun v46 H =>
   W.get v46 H fun v47 H =>
   W.indexAddr 1 v47 i_7 H fun v48 H =>
   W.get v48 H fun v49 H =>
   W.indexAddr 1 v43 v45 H fun v50 H =>
   W.put v50 v49 H fun _ H =>
   W.bin .add i_7 (.int .i64 1) H fun v51 H =>
   I1 (v51, ()) H)
def f29.l1 (Q : Post) (v1 : Value) (v17 : Value) (list_1 : Value) (v2 : Value) (I1 : St [7] → Heap → Prop) (i_7 : Value) (H : Heap) : Prop :=
  W.fieldAddr 1 v1 H fun v18 H =>
  W.get v18 H fun v19 H =>
  W.len v19 H fun v20 H =>
  W.bin .lss i_7 v20 H fun v21 H =>
  W.cond v21 H
  (fun H => W.fieldAddr 0 v17 H fun v22 H =>
   W.get v22 H fun v23 H =>
   W.indexAddr 1 list_1 i_7 H fun v24 H =>
   W.get v24 H fun v25 H =>
   W.indexAddr 1 v23 v25 H fun v26 H =>
   W.get v26 H fun v27 H =>
   W.loop (S := St [9]) (fun I2 s H => f29.l2 Q v1 list_1 i_7 v27 v17 I1 I2 s.1 H) ((.int .i64 0), ()) H)
  (fun H => W.getN 2 v17 H fun v52 H =>
   W.putN 2 v2 v52 H fun _ H =>
   W.getN 2 v2 H fun v53 H => Q (.tuple #[v53, (.int .i64 0)]) H)
def f29.w (Q : Post) (p_0 : Value) (list_1 : Value) (H : Heap) : Prop :=
  W.box p_0 25 H fun v1 H =>
  W.new [(.slice none 0 0), (.slice none 0 0)] 25 H fun v2 H =>
  W.getN 2 v1 H fun v3 H =>
  W.call Try.prog (.func (.func 48) #[] #[]) #[v3] H fun v4 H =>
  W.un .not v4 H fun v5 H =>
  W.cond v5 H
  (fun H => W.build [(.slice none 0 0), (.slice none 0 0)] [] H fun v6 H =>
   W.putN 2 v2 v6 H fun _ H =>
   W.getN 2 v2 H fun v7 H => Q (.tuple #[v7, (.int .i64 1)]) H)
  (fun H => W.fieldAddr 1 v1 H fun v8 H =>
   W.get v8 H fun v9 H =>
   W.len v9 H fun v10 H =>
   W.call Try.prog (.func (.func 57) #[] #[]) #[list_1, v10] H fun v11 H =>
   W.un .not v11 H fun v12 H =>
   W.cond v12 H
   (fun H => W.build [(.slice none 0 0), (.slice none 0 0)] [] H fun v13 H =>
    W.putN 2 v2 v13 H fun _ H =>
    W.getN 2 v2 H fun v14 H => Q (.tuple #[v14, (.int .i64 2)]) H)
   (fun H => W.getN 2 v1 H fun v15 H =>
    W.call Try.prog (.func (.func 50) #[] #[]) #[v15] H fun v16 H =>
    W.new [(.slice none 0 0), (.slice none 0 0)] 25 H fun v17 H =>
    W.putN 2 v17 v16 H fun _ H =>
    W.loop (S := St [7]) (fun I1 s H => f29.l1 Q v1 v17 list_1 v2 I1 s.1 H) ((.int .i64 0), ()) H))
theorem f29.enter {Q : Post} {p_0 : Value} {list_1 : Value} {H : Heap} (h : f29.w Q p_0 list_1 H) : Runs Try.prog 29 #[p_0, list_1] H Q :=
  fn_enter (ann := [(7, [7]), (11, [9])]) (by kernel_rfl) Try.func29 rfl (by kernel_rfl) h (by kernel_rfl)
/- loop.example/g01343/laws.toInt64S -/
def f30.l1 (Q : Post) (a_0 : Value) (v2 : Value) (I1 : St [4] → Heap → Prop) (i_4 : Value) (H : Heap) : Prop :=
  W.len a_0 H fun v3 H =>
  W.bin .lss i_4 v3 H fun v4 H =>
  W.cond v4 H
  (fun H => W.indexAddr 1 a_0 i_4 H fun v5 H =>
   W.get v5 H fun v6 H =>
   W.indexAddr 1 v2 i_4 H fun v7 H =>
   W.put v7 v6 H fun _ H =>
   W.bin .add i_4 (.int .i64 1) H fun v8 H =>
   I1 (v8, ()) H)
  (fun H => Q v2 H)
def f30.w (Q : Post) (a_0 : Value) (H : Heap) : Prop :=
  W.len a_0 H fun v1 H =>
  W.make [(.int .i64 0)] 2 v1 v1 H fun v2 H =>
  W.loop (S := St [4]) (fun I1 s H => f30.l1 Q a_0 v2 I1 s.1 H) ((.int .i64 0), ()) H
theorem f30.enter {Q : Post} {a_0 : Value} {H : Heap} (h : f30.w Q a_0 H) : Runs Try.prog 30 #[a_0] H Q :=
  fn_enter (ann := [(3, [4])]) (by kernel_rfl) Try.func30 rfl (by kernel_rfl) h (by kernel_rfl)
/- loop.example/g01343/impl.RenumberProblem -/
def f31.l2 (Q : Post) (v33 : Value) (v23 : Value) (v17 : Value) (list_1 : Value) (x_27 : Value) (I1 : St [27] → Heap → Prop) (I2 : St [46] → Heap → Prop) (x_46 : Value) (H : Heap) : Prop :=
  W.bin .lss x_46 v33 H fun v34 H =>
  W.cond v34 H
  (fun H => W.indexAddr 1 v23 x_46 H fun v35 H =>
   W.get v35 H fun v36 H =>
   W.fieldAddr 0 v17 H fun v37 H =>
   W.get v37 H fun v38 H =>
   W.indexAddr 1 list_1 x_27 H fun v39 H =>
   W.get v39 H fun v40 H =>
   W.indexAddr 1 v38 v40 H fun v41 H =>
   W.get v41 H fun v42 H =>
   W.indexAddr 1 list_1 x_46 H fun v43 H =>
   W.get v43 H fun v44 H =>
   W.indexAddr 1 v42 v44 H fun v45 H =>
   W.put v45 v36 H fun _ H =>
   W.bin .add x_46 (.int .i64 1) H fun v46 H =>
   I2 (v46, ()) H)
  (fun H => W.bin .add x_27 (.int .i64 1) H fun v47 H =>
   I1 (v47, ()) H)
def f31.l1 (Q : Post) (v20 : Value) (v19 : Value) (v17 : Value) (list_1 : Value) (v1 : Value) (v2 : Value) (I1 : St [27] → Heap → Prop) (x_27 : Value) (H : Heap) : Prop :=
  W.bin .lss x_27 v20 H fun v21 H =>
  W.cond v21 H
  (fun H => W.indexAddr 1 v19 x_27 H fun v22 H =>
   W.get v22 H fun v23 H =>
   W.fieldAddr 1 v17 H fun v24 H =>
   W.get v24 H fun v25 H =>
   W.indexAddr 1 list_1 x_27 H fun v26 H =>
   W.get v26 H fun v27 H =>
   W.fieldAddr 1 v1 H fun v28 H =>
   W.get v28 H fun v29 H =>
   W.indexAddr 1 v29 x_27 H fun v30 H =>
   W.get v30 H fun v31 H =>
   W.indexAddr 1 v25 v27 H fun v32 H =>
   W.put v32 v31 H fun _ H =>
   W.len v23 H fun v33 H =>
   W.loop (S := St [46]) (fun I2 s H => f31.l2 Q v33 v23 v17 list_1 x_27 I1 I2 s.1 H) ((.int .i64 0), ()) H)
  (fun H => W.getN 2 v17 H fun v48 H =>
   W.putN 2 v2 v48 H fun _ H =>
   W.getN 2 v2 H fun v49 H => Q (.tuple #[v49, (.int .i64 0)]) H)
def f31.w (Q : Post) (p_0 : Value) (list_1 : Value) (H : Heap) : Prop :=
  W.box p_0 25 H fun v1 H =>
  W.new [(.slice none 0 0), (.slice none 0 0)] 25 H fun v2 H =>
  W.getN 2 v1 H fun v3 H =>
  W.call Try.prog (.func (.func 36) #[] #[]) #[v3] H fun v4 H =>
  W.un .not v4 H fun v5 H =>
  W.cond v5 H
  (fun H => W.build [(.slice none 0 0), (.slice none 0 0)] [] H fun v6 H =>
   W.putN 2 v2 v6 H fun _ H =>
   W.getN 2 v2 H fun v7 H => Q (.tuple #[v7, (.int .i64 1)]) H)
  (fun H => W.fieldAddr 1 v1 H fun v8 H =>
   W.get v8 H fun v9 H =>
   W.len v9 H fun v10 H =>
   W.call Try.prog (.func (.func 58) #[] #[]) #[list_1, v10] H fun v11 H =>
   W.un .not v11 H fun v12 H =>
   W.cond v12 H
   (fun H => W.build [(.slice none 0 0), (.slice none 0 0)] [] H fun v13 H =>
    W.putN 2 v2 v13 H fun _ H =>
    W.getN 2 v2 H fun v14 H => Q (.tuple #[v14, (.int .i64 2)]) H)
   (fun H => W.getN 2 v1 H fun v15 H =>
    W.call Try.prog (.func (.func 52) #[] #[]) #[v15] H fun v16 H =>
    W.new [(.slice none 0 0), (.slice none 0 0)] 25 H fun v17 H =>
    W.putN 2 v17 v16 H fun _ H =>
    W.fieldAddr 0 v1 H fun v18 H =>
    W.get v18 H fun v19 H =>
    W.len v19 H fun v20 H =>
    W.loop (S := St [27]) (fun I1 s H => f31.l1 Q v20 v19 v17 list_1 v1 v2 I1 s.1 H) ((.int .i64 0), ()) H))
theorem f31.enter {Q : Post} {p_0 : Value} {list_1 : Value} {H : Heap} (h : f31.w Q p_0 list_1 H) : Runs Try.prog 31 #[p_0, list_1] H Q :=
  fn_enter (ann := [(7, [27]), (11, [46])]) (by kernel_rfl) Try.func31 rfl (by kernel_rfl) h (by kernel_rfl)
/- loop.example/g01343/spec.l02Code -/
def f35.w (Q : Post) (p_0 : Value) (s_1 : Value) (H : Heap) : Prop :=
  W.box p_0 25 H fun v1 H =>
  W.getN 2 v1 H fun v2 H =>
  W.call Try.prog (.func (.func 48) #[] #[]) #[v2] H fun v3 H =>
  W.un .not v3 H fun v4 H =>
  W.cond v4 H
  (fun H => Q (.int .i64 1) H)
  (fun H => W.fieldAddr 1 v1 H fun v5 H =>
   W.get v5 H fun v6 H =>
   W.len v6 H fun v7 H =>
   W.conv .u64 v7 H fun v8 H =>
   W.bin .shl (.int .i64 1) v8 H fun v9 H =>
   W.bin .sub v9 (.int .i64 1) H fun v10 H =>
   W.call Try.prog (.func (.func 49) #[] #[]) #[s_1, (.int .i64 0), v10] H fun v11 H =>
   W.un .not v11 H fun v12 H =>
   W.cond v12 H
   (fun H => Q (.int .i64 2) H)
   (fun H => Q (.int .i64 0) H))
theorem f35.enter {Q : Post} {p_0 : Value} {s_1 : Value} {H : Heap} (h : f35.w Q p_0 s_1 H) : Runs Try.prog 35 #[p_0, s_1] H Q :=
  fn_enter (ann := []) (by kernel_rfl) Try.func35 rfl (by kernel_rfl) h (by kernel_rfl)
/- loop.example/g01343/impl.IsProblem -/
def f36.w (Q : Post) (p_0 : Value) (H : Heap) : Prop :=
  W.box p_0 25 H fun v1 H =>
  W.fieldAddr 0 v1 H fun v2 H =>
  W.get v2 H fun v3 H =>
  W.call Try.prog (.func (.func 59) #[] #[]) #[v3] H fun v4 H =>
  W.guarded v4 true (fun H k => W.fieldAddr 1 v1 H k) H fun v5 H =>
  W.guarded v4 true (fun H k => W.get v5 H k) H fun v6 H =>
  W.guarded v4 true (fun H k => W.len v6 H k) H fun v7 H =>
  W.guarded v4 true (fun H k => W.fieldAddr 0 v1 H k) H fun v8 H =>
  W.guarded v4 true (fun H k => W.get v8 H k) H fun v9 H =>
  W.guarded v4 true (fun H k => W.len v9 H k) H fun v10 H =>
  W.guarded v4 true (fun H k => W.bin .eql v7 v10 H k) H fun v11 H =>
  W.pick v4 v11 (.bool false) H fun v12 H =>
  W.guarded v12 true (fun H k => W.fieldAddr 1 v1 H k) H fun v13 H =>
  W.guarded v12 true (fun H k => W.get v13 H k) H fun v14 H =>
  W.guarded v12 true (fun H k => W.call Try.prog (.func (.func 43) #[] #[]) #[v14, (.int .i64 100)] H k) H fun v15 H =>
  W.pick v12 v15 (.bool false) H fun v16 H =>
  Q v16 H
theorem f36.enter {Q : Post} {p_0 : Value} {H : Heap} (h : f36.w Q p_0 H) : Runs Try.prog 36 #[p_0] H Q :=
  fn_enter (ann := []) (by kernel_rfl) Try.func36 rfl (by kernel_rfl) h (by kernel_rfl)
/- loop.example/g01343/impl.isSet -/
def f37.w (Q : Post) (s_0 : Value) (n_1 : Value) (H : Heap) : Prop :=
  W.bin .shl (.int .i64 1) n_1 H fun v1 H =>
  W.bin .sub v1 (.int .i64 1) H fun v2 H =>
  W.call Try.prog (.func (.func 51) #[] #[]) #[s_0, (.int .i64 0), v2] H fun v3 H =>
  Q v3 H
theorem f37.enter {Q : Post} {s_0 : Value} {n_1 : Value} {H : Heap} (h : f37.w Q s_0 n_1 H) : Runs Try.prog 37 #[s_0, n_1] H Q :=
  fn_enter (ann := []) (by kernel_rfl) Try.func37 rfl (by kernel_rfl) h (by kernel_rfl)
/- loop.example/g01343/laws.szInt64SS -/
def f38.l1 (Q : Post) (a_0 : Value) (I1 : St [1, 5] → Heap → Prop) (left_1' : Value) (i_5 : Value) (H : Heap) : Prop :=
  W.len a_0 H fun v4 H =>
  W.bin .lss i_5 v4 H fun v5 H =>
  W.cond v5 H
  (fun H => W.indexAddr 1 a_0 i_5 H fun v6 H =>
   W.get v6 H fun v7 H =>
   W.call Try.prog (.func (.func 39) #[] #[]) #[v7, left_1'] H fun v8 H =>
   W.bin .lss v8 (.int .i64 0) H fun v9 H =>
   W.cond v9 H
   (fun H => Q (.int .i64 (-1)) H)
   (fun H => W.bin .add i_5 (.int .i64 1) H fun v10 H =>
    I1 (v8, v10, ()) H))
  (fun H => Q left_1' H)
def f38.w (Q : Post) (a_0 : Value) (left_1 : Value) (H : Heap) : Prop :=
  W.len a_0 H fun v1 H =>
  W.bin .sub left_1 v1 H fun v2 H =>
  W.bin .lss v2 (.int .i64 0) H fun v3 H =>
  W.cond v3 H
  (fun H => Q (.int .i64 (-1)) H)
  (fun H => W.loop (S := St [1, 5]) (fun I1 s H => f38.l1 Q a_0 I1 s.1 s.2.1 H) (v2, (.int .i64 0), ()) H)
theorem f38.enter {Q : Post} {a_0 : Value} {left_1 : Value} {H : Heap} (h : f38.w Q a_0 left_1 H) : Runs Try.prog 38 #[a_0, left_1] H Q :=
  fn_enter (ann := [(5, [1, 5])]) (by kernel_rfl) Try.func38 rfl (by kernel_rfl) h (by kernel_rfl)
/- loop.example/g01343/laws.szInt64S -/
def f39.w (Q : Post) (a_0 : Value) (left_1 : Value) (H : Heap) : Prop :=
  W.len a_0 H fun v1 H =>
  W.bin .sub left_1 v1 H fun v2 H =>
  W.bin .lss v2 (.int .i64 0) H fun v3 H =>
  W.cond v3 H
  (fun H => Q (.int .i64 (-1)) H)
  (fun H => Q v2 H)
theorem f39.enter {Q : Post} {a_0 : Value} {left_1 : Value} {H : Heap} (h : f39.w Q a_0 left_1 H) : Runs Try.prog 39 #[a_0, left_1] H Q :=
  fn_enter (ann := []) (by kernel_rfl) Try.func39 rfl (by kernel_rfl) h (by kernel_rfl)
/- loop.example/g01343/spec.l09Is -/
def f40.l2 (Q : Post) (v4 : Value) (v1 : Value) (i_5 : Value) (I1 : St [5] → Heap → Prop) (I2 : St [6] → Heap → Prop) (k_6 : Value) (H : Heap) : Prop :=
  W.bin .lss k_6 v4 H fun v41 H =>
  W.cond v41 H
  (fun H => W.fieldAddr 0 v1 H fun v42 H =>
   W.get v42 H fun v43 H =>
   W.indexAddr 1 v43 i_5 H fun v44 H =>
   W.get v44 H fun v45 H =>
   W.indexAddr 1 v45 k_6 H fun v46 H =>
   W.get v46 H fun v47 H =>
   W.call Try.prog (.func (.func 49) #[] #[]) #[v47, (.int .i64 (-20)), (.int .i64 20)] H fun v48 H =>
   W.un .not v48 H fun v49 H =>
   W.cond v49 H
   (fun H => Q (.bool false) H)
   (fun H => W.bin .add k_6 (.int .i64 1) H fun v50 H =>
    I2 (v50, ()) H))
  (fun H => W.bin .add i_5 (.int .i64 1) H fun v51 H =>
   I1 (v51, ()) H)
def f40.l4 (Q : Post) (i_7 : Value) (v1 : Value) (I3 : St [7] → Heap → Prop) (I4 : St [8] → Heap → Prop) (k_8 : Value) (H : Heap) : Prop :=
  W.bin .lss k_8 i_7 H fun v53 H =>
  W.cond v53 H
  (fun H => W.fieldAddr 0 v1 H fun v54 H =>
   W.get v54 H fun v55 H =>
   W.indexAddr 1 v55 i_7 H fun v56 H =>
   W.get v56 H fun v57 H =>
   W.indexAddr 1 v57 k_8 H fun v58 H =>
   W.get v58 H fun v59 H =>
   W.fieldAddr 0 v1 H fun v60 H =>
   W.get v60 H fun v61 H =>
   W.indexAddr 1 v61 k_8 H fun v62 H =>
   W.get v62 H fun v63 H =>
   W.indexAddr 1 v63 i_7 H fun v64 H =>
   W.get v64 H fun v65 H =>
   W.bin .neq v59 v65 H fun v66 H =>
   W.cond v66 H
   (fun H => Q (.bool false) H)
   (fun H => W.bin .add k_8 (.int .i64 1) H fun v67 H =>
    I4 (v67, ()) H))
  (fun H => W.bin .add i_7 (.int .i64 1) H fun v68 H =>
   I3 (v68, ()) H)
def f40.l6 (Q : Post) (v4 : Value) (v1 : Value) (j_9 : Value) (I5 : St [9] → Heap → Prop) (I6 : St [10] → Heap → Prop) (k_10 : Value) (H : Heap) : Prop :=
  W.bin .lss k_10 v4 H fun v84 H =>
  W.cond v84 H
  (fun H => W.fieldAddr 2 v1 H fun v85 H =>
   W.get v85 H fun v86 H =>
   W.indexAddr 1 v86 j_9 H fun v87 H =>
   W.get v87 H fun v88 H =>
   W.indexAddr 1 v88 k_10 H fun v89 H =>
   W.get v89 H fun v90 H =>
   W.call Try.prog (.func (.func 49) #[] #[]) #[v90, (.int .i64 (-20)), (.int .i64 20)] H fun v91 H =>
   W.un .not v91 H fun v92 H =>
   W.cond v92 H
   (fun H => Q (.bool false) H)
   (fun H => W.bin .add k_10 (.int .i64 1) H fun v93 H =>
    I6 (v93, ()) H))
  (fun H => W.bin .add j_9 (.int .i64 1) H fun v94 H =>
   I5 (v94, ()) H)
def f40.l5 (Q : Post) (v7 : Value) (v1 : Value) (v4 : Value) (I5 : St [9] → Heap → Prop) (j_9 : Value) (H : Heap) : Prop :=
  W.bin .lss j_9 v7 H fun v69 H =>
  W.cond v69 H
  (fun H => W.fieldAddr 2 v1 H fun v70 H =>
   W.get v70 H fun v71 H =>
   W.indexAddr 1 v71 j_9 H fun v72 H =>
   W.get v72 H fun v73 H =>
   W.len v73 H fun v74 H =>
   W.bin .neq v74 v4 H fun v75 H =>
   W.guarded v75 false (fun H k => W.fieldAddr 3 v1 H k) H fun v76 H =>
   W.guarded v75 false (fun H k => W.get v76 H k) H fun v77 H =>
   W.guarded v75 false (fun H k => k j_9 H) H fun v78 H =>
   W.guarded v75 false (fun H k => W.indexAddr 1 v77 v78 H k) H fun v79 H =>
   W.guarded v75 false (fun H k => W.get v79 H k) H fun v80 H =>
   W.guarded v75 false (fun H k => W.call Try.prog (.func (.func 49) #[] #[]) #[v80, (.int .i64 (-100)), (.int .i64 100)] H k) H fun v81 H =>
   W.guarded v75 false (fun H k => W.un .not v81 H k) H fun v82 H =>
   W.pick v75 (.bool true) v82 H fun v83 H =>
   W.cond v83 H
   (fun H => Q (.bool false) H)
   (fun H => W.loop (S := St [10]) (fun I6 s H => f40.l6 Q v4 v1 j_9 I5 I6 s.1 H) ((.int .i64 0), ()) H))
  (fun H => Q (.bool true) H)
def f40.l3 (Q : Post) (v4 : Value) (v1 : Value) (v7 : Value) (I3 : St [7] → Heap → Prop) (i_7 : Value) (H : Heap) : Prop :=
  W.bin .lss i_7 v4 H fun v52 H =>
  W.cond v52 H
  (fun H => W.loop (S := St [8]) (fun I4 s H => f40.l4 Q i_7 v1 I3 I4 s.1 H) ((.int .i64 0), ()) H)
  (fun H => W.loop (S := St [9]) (fun I5 s H => f40.l5 Q v7 v1 v4 I5 s.1 H) ((.int .i64 0), ()) H)
def f40.l1 (Q : Post) (v4 : Value) (v1 : Value) (v7 : Value) (I1 : St [5] → Heap → Prop) (i_5 : Value) (H : Heap) : Prop :=
  W.bin .lss i_5 v4 H fun v26 H =>
  W.cond v26 H
  (fun H => W.fieldAddr 0 v1 H fun v27 H =>
   W.get v27 H fun v28 H =>
   W.indexAddr 1 v28 i_5 H fun v29 H =>
   W.get v29 H fun v30 H =>
   W.len v30 H fun v31 H =>
   W.bin .neq v31 v4 H fun v32 H =>
   W.guarded v32 false (fun H k => W.fieldAddr 1 v1 H k) H fun v33 H =>
   W.guarded v32 false (fun H k => W.get v33 H k) H fun v34 H =>
   W.guarded v32 false (fun H k => k i_5 H) H fun v35 H =>
   W.guarded v32 false (fun H k => W.indexAddr 1 v34 v35 H k) H fun v36 H =>
   W.guarded v32 false (fun H k => W.get v36 H k) H fun v37 H =>
   W.guarded v32 false (fun H k => W.call Try.prog (.func (.func 49) #[] #[]) #[v37, (.int .i64 (-100)), (.int .i64 100)] H k) H fun v38 H =>
   W.guarded v32 false (fun H k => W.un .not v38 H k) H fun v39 H =>
   W.pick v32 (.bool true) v39 H fun v40 H =>
   W.cond v40 H
   (fun H => Q (.bool false) H)
   (fun H => W.loop (S := St [6]) (fun I2 s H => f40.l2 Q v4 v1 i_5 I1 I2 s.1 H) ((.int .i64 0), ()) H))
  (fun H => W.loop (S := St [7]) (fun I3 s H => f40.l3 Q v4 v1 v7 I3 s.1 H) ((.int .i64 0), ()) H)
def f40.w (Q : Post) (p_0 : Value) (H : Heap) : Prop :=
  W.box p_0 43 H fun v1 H =>
  W.fieldAddr 1 v1 H fun v2 H =>
  W.get v2 H fun v3 H =>
  W.len v3 H fun v4 H =>
  W.fieldAddr 3 v1 H fun v5 H =>
  W.get v5 H fun v6 H =>
  W.len v6 H fun v7 H =>
  W.bin .lss v4 (.int .i64 1) H fun v8 H =>
  W.guarded v8 false (fun H k => k v4 H) H fun v9 H =>
  W.guarded v8 false (fun H k => k v7 H) H fun v10 H =>
  W.guarded v8 false (fun H k => W.bin .add v9 v10 H k) H fun v11 H =>
  W.guarded v8 false (fun H k => W.bin .gtr v11 (.int .i64 5) H k) H fun v12 H =>
  W.pick v8 (.bool true) v12 H fun v13 H =>
  W.guarded v13 false (fun H k => W.fieldAddr 0 v1 H k) H fun v14 H =>
  W.guarded v13 false (fun H k => W.get v14 H k) H fun v15 H =>
  W.guarded v13 false (fun H k => W.len v15 H k) H fun v16 H =>
  W.guarded v13 false (fun H k => k v4 H) H fun v17 H =>
  W.guarded v13 false (fun H k => W.bin .neq v16 v17 H k) H fun v18 H =>
  W.pick v13 (.bool true) v18 H fun v19 H =>
  W.guarded v19 false (fun H k => W.fieldAddr 2 v1 H k) H fun v20 H =>
  W.guarded v19 false (fun H k => W.get v20 H k) H fun v21 H =>
  W.guarded v19 false (fun H k => W.len v21 H k) H fun v22 H =>
  W.guarded v19 false (fun H k => k v7 H) H fun v23 H =>
  W.guarded v19 false (fun H k => W.bin .neq v22 v23 H k) H fun v24 H =>
  W.pick v19 (.bool true) v24 H fun v25 H =>
  W.cond v25 H
  (fun H => Q (.bool false) H)
  (fun H => W.loop (S := St [5]) (fun I1 s H => f40.l1 Q v4 v1 v7 I1 s.1 H) ((.int .i64 0), ()) H)
theorem f40.enter {Q : Post} {p_0 : Value} {H : Heap} (h : f40.w Q p_0 H) : Runs Try.prog 40 #[p_0] H Q :=
  fn_enter (ann := [(5, [5]), (10, [6]), (15, [7]), (18, [8]), (23, [9]), (28, [10])]) (by kernel_rfl) Try.func40 rfl (by kernel_rfl) h (by kernel_rfl)
/- loop.example/g01343/laws.toInt64SS -/
def f41.l1 (Q : Post) (a_0 : Value) (v2 : Value) (I1 : St [4] → Heap → Prop) (i_4 : Value) (H : Heap) : Prop :=
  W.len a_0 H fun v3 H =>
  W.bin .lss i_4 v3 H fun v4 H =>
  W.cond v4 H
  (fun H => W.indexAddr 1 a_0 i_4 H fun v5 H =>
   W.get v5 H fun v6 H =>
   W.call Try.prog (.func (.func 30) #[] #[]) #[v6] H fun v7 H =>
   W.indexAddr 1 v2 i_4 H fun v8 H =>
   W.put v8 v7 H fun _ H =>
   W.bin .add i_4 (.int .i64 1) H fun v9 H =>
   I1 (v9, ()) H)
  (fun H => Q v2 H)
def f41.w (Q : Post) (a_0 : Value) (H : Heap) : Prop :=
  W.len a_0 H fun v1 H =>
  W.make [(.slice none 0 0)] 23 v1 v1 H fun v2 H =>
  W.loop (S := St [4]) (fun I1 s H => f41.l1 Q a_0 v2 I1 s.1 H) ((.int .i64 0), ()) H
theorem f41.enter {Q : Post} {a_0 : Value} {H : Heap} (h : f41.w Q a_0 H) : Runs Try.prog 41 #[a_0] H Q :=
  fn_enter (ann := [(3, [4])]) (by kernel_rfl) Try.func41 rfl (by kernel_rfl) h (by kernel_rfl)
/- loop.example/g01343/impl.isSquare -/
def f42.w (Q : Post) (m_0 : Value) (n_1 : Value) (H : Heap) : Prop :=
  W.box n_1 3 H fun v1 H =>
  W.len m_0 H fun v2 H =>
  W.get v1 H fun v3 H =>
  W.bin .eql v2 v3 H fun v4 H =>
  W.guarded v4 true (fun H k => k m_0 H) H fun v5 H =>
  W.guarded v4 true (fun H k => k (.func (.func 61) #[] #[v1]) H) H fun v6 H =>
  W.guarded v4 true (fun H k => W.call Try.prog (.func (.func 60) #[] #[]) #[v5, v6] H k) H fun v7 H =>
  W.guarded v4 true (fun H k => W.un .not v7 H k) H fun v8 H =>
  W.pick v4 v8 (.bool false) H fun v9 H =>
  Q v9 H
theorem f42.enter {Q : Post} {m_0 : Value} {n_1 : Value} {H : Heap} (h : f42.w Q m_0 n_1 H) : Runs Try.prog 42 #[m_0, n_1] H Q :=
  fn_enter (ann := []) (by kernel_rfl) Try.func42 rfl (by kernel_rfl) h (by kernel_rfl)
/- loop.example/g01343/impl.allUpTo -/
def f43.w (Q : Post) (list_0 : Value) (most_1 : Value) (H : Heap) : Prop :=
  W.box most_1 2 H fun v1 H =>
  W.call Try.prog (.func (.func 62) #[] #[]) #[list_0, (.func (.func 63) #[] #[v1])] H fun v2 H =>
  W.un .not v2 H fun v3 H =>
  Q v3 H
theorem f43.enter {Q : Post} {list_0 : Value} {most_1 : Value} {H : Heap} (h : f43.w Q list_0 most_1 H) : Runs Try.prog 43 #[list_0, most_1] H Q :=
  fn_enter (ann := []) (by kernel_rfl) Try.func43 rfl (by kernel_rfl) h (by kernel_rfl)
/- slices.Concat[[][]int64,[]int64] -/
def f44.l2 (Q : Post) (v10 : Value) (slices_0 : Value) (I2 : St [6, 27] → Heap → Prop) (newslice_6 : Value) (x_27 : Value) (H : Heap) : Prop :=
  W.bin .lss x_27 v10 H fun v11 H =>
  W.cond v11 H
  (fun H => W.indexAddr 1 slices_0 x_27 H fun v12 H =>
   W.get v12 H fun v13 H =>
   W.append 1 23 newslice_6 v13 H fun v14 H =>
   W.bin .add x_27 (.int .i64 1) H fun v15 H =>
   I2 (v14, v15, ()) H)
  (fun H => Q newslice_6 H)
def f44.l1 (Q : Post) (v1 : Value) (slices_0 : Value) (I1 : St [3, 11] → Heap → Prop) (size_3 : Value) (x_11 : Value) (H : Heap) : Prop :=
  W.bin .lss x_11 v1 H fun v2 H =>
  W.cond v2 H
  (fun H => W.indexAddr 1 slices_0 x_11 H fun v3 H =>
   W.get v3 H fun v4 H =>
   W.len v4 H fun v5 H =>
   W.bin .add size_3 v5 H fun v6 H =>
   W.bin .lss v6 (.int .i64 0) H fun v7 H =>
   W.cond v7 H
   (fun H => W.no H)
   (fun H => W.bin .add x_11 (.int .i64 1) H fun v8 H =>
    I1 (v6, v8, ()) H))
  (fun H => W.call Try.prog (.func (.func 65) #[] #[]) #[(.slice none 0 0), size_3] H fun v9 H =>
   W.len slices_0 H fun v10 H =>
   W.loop (S := St [6, 27]) (fun I2 s H => f44.l2 Q v10 slices_0 I2 s.1 s.2.1 H) (v9, (.int .i64 0), ()) H)
def f44.w (Q : Post) (slices_0 : Value) (H : Heap) : Prop :=
  W.len slices_0 H fun v1 H =>
  W.loop (S := St [3, 11]) (fun I1 s H => f44.l1 Q v1 slices_0 I1 s.1 s.2.1 H) ((.int .i64 0), (.int .i64 0), ()) H
theorem f44.enter {Q : Post} {slices_0 : Value} {H : Heap} (h : f44.w Q slices_0 H) : Runs Try.prog 44 #[slices_0] H Q :=
  fn_enter (ann := [(3, [3, 11]), (11, [6, 27])]) (by kernel_rfl) Try.func44 rfl (by kernel_rfl) h (by kernel_rfl)
/- loop.example/g01343/impl.allPlaces -/
def f45.l2 (Q : Post) (v3 : Value) (is_1 : Value) (x_9 : Value) (I1 : St [9] → Heap → Prop) (I2 : St [14] → Heap → Prop) (x_14 : Value) (H : Heap) : Prop :=
  W.bin .lss x_14 v3 H fun v4 H =>
  W.cond v4 H
  (fun H => W.call Try.prog is_1 #[x_9, x_14] H fun v5 H =>
   W.un .not v5 H fun v6 H =>
   W.cond v6 H
   (fun H => Q (.bool false) H)
   (fun H => W.bin .add x_14 (.int .i64 1) H fun v7 H =>
    I2 (v7, ()) H))
  (fun H => W.bin .add x_9 (.int .i64 1) H fun v8 H =>
   I1 (v8, ()) H)
def f45.l1 (Q : Post) (v1 : Value) (m_0 : Value) (is_1 : Value) (I1 : St [9] → Heap → Prop) (x_9 : Value) (H : Heap) : Prop :=
  W.bin .lss x_9 v1 H fun v2 H =>
  W.cond v2 H
  (fun H => W.len m_0 H fun v3 H =>
   W.loop (S := St [14]) (fun I2 s H => f45.l2 Q v3 is_1 x_9 I1 I2 s.1 H) ((.int .i64 0), ()) H)
  (fun H => Q (.bool true) H)
def f45.w (Q : Post) (m_0 : Value) (is_1 : Value) (H : Heap) : Prop :=
  W.len m_0 H fun v1 H =>
  W.loop (S := St [9]) (fun I1 s H => f45.l1 Q v1 m_0 is_1 I1 s.1 H) ((.int .i64 0), ()) H
theorem f45.enter {Q : Post} {m_0 : Value} {is_1 : Value} {H : Heap} (h : f45.w Q m_0 is_1 H) : Runs Try.prog 45 #[m_0, is_1] H Q :=
  fn_enter (ann := [(2, [9]), (5, [14])]) (by kernel_rfl) Try.func45 rfl (by kernel_rfl) h (by kernel_rfl)
/- loop.example/g01343/impl.IsProgram$1 -/
def f46.w (Q : Post) (i_0 : Value) (k_1 : Value) (x_2 : Value) (H : Heap) : Prop :=
  W.fieldAddr 0 x_2 H fun v1 H =>
  W.get v1 H fun v2 H =>
  W.indexAddr 1 v2 i_0 H fun v3 H =>
  W.get v3 H fun v4 H =>
  W.indexAddr 1 v4 k_1 H fun v5 H =>
  W.get v5 H fun v6 H =>
  W.fieldAddr 0 x_2 H fun v7 H =>
  W.get v7 H fun v8 H =>
  W.indexAddr 1 v8 k_1 H fun v9 H =>
  W.get v9 H fun v10 H =>
  W.indexAddr 1 v10 i_0 H fun v11 H =>
  W.get v11 H fun v12 H =>
  W.bin .eql v6 v12 H fun v13 H =>
  Q v13 H
theorem f46.enter {Q : Post} {i_0 : Value} {k_1 : Value} {x_2 : Value} {H : Heap} (h : f46.w Q i_0 k_1 x_2 H) : Runs Try.prog 46 #[i_0, k_1, x_2] H Q :=
  fn_enter (ann := []) (by kernel_rfl) Try.func46 rfl (by kernel_rfl) h (by kernel_rfl)
/- loop.example/g01343/spec.l01Is -/
def f48.l1 (Q : Post) (v1 : Value) (I1 : St [3] → Heap → Prop) (i_3 : Value) (H : Heap) : Prop :=
  W.fieldAddr 1 v1 H fun v14 H =>
  W.get v14 H fun v15 H =>
  W.len v15 H fun v16 H =>
  W.bin .lss i_3 v16 H fun v17 H =>
  W.cond v17 H
  (fun H => W.fieldAddr 1 v1 H fun v18 H =>
   W.get v18 H fun v19 H =>
   W.indexAddr 1 v19 i_3 H fun v20 H =>
   W.get v20 H fun v21 H =>
   W.call Try.prog (.func (.func 49) #[] #[]) #[v21, (.int .i64 (-100)), (.int .i64 100)] H fun v22 H =>
   W.un .not v22 H fun v23 H =>
   W.cond v23 H
   (fun H => Q (.bool false) H)
   (fun H => W.bin .add i_3 (.int .i64 1) H fun v24 H =>
    I1 (v24, ()) H))
  (fun H => Q (.bool true) H)
def f48.w (Q : Post) (p_0 : Value) (H : Heap) : Prop :=
  W.box p_0 25 H fun v1 H =>
  W.fieldAddr 0 v1 H fun v2 H =>
  W.get v2 H fun v3 H =>
  W.call Try.prog (.func (.func 66) #[] #[]) #[v3] H fun v4 H =>
  W.un .not v4 H fun v5 H =>
  W.guarded v5 false (fun H k => W.fieldAddr 1 v1 H k) H fun v6 H =>
  W.guarded v5 false (fun H k => W.get v6 H k) H fun v7 H =>
  W.guarded v5 false (fun H k => W.len v7 H k) H fun v8 H =>
  W.guarded v5 false (fun H k => W.fieldAddr 0 v1 H k) H fun v9 H =>
  W.guarded v5 false (fun H k => W.get v9 H k) H fun v10 H =>
  W.guarded v5 false (fun H k => W.len v10 H k) H fun v11 H =>
  W.guarded v5 false (fun H k => W.bin .neq v8 v11 H k) H fun v12 H =>
  W.pick v5 (.bool true) v12 H fun v13 H =>
  W.cond v13 H
  (fun H => Q (.bool false) H)
  (fun H => W.loop (S := St [3]) (fun I1 s H => f48.l1 Q v1 I1 s.1 H) ((.int .i64 0), ()) H)
theorem f48.enter {Q : Post} {p_0 : Value} {H : Heap} (h : f48.w Q p_0 H) : Runs Try.prog 48 #[p_0] H Q :=
  fn_enter (ann := [(4, [3])]) (by kernel_rfl) Try.func48 rfl (by kernel_rfl) h (by kernel_rfl)
/- loop.example/g01343/spec.l01In -/
def f49.w (Q : Post) (n_0 : Value) (low_1 : Value) (high_2 : Value) (H : Heap) : Prop :=
  W.bin .geq n_0 low_1 H fun v1 H =>
  W.guarded v1 true (fun H k => k n_0 H) H fun v2 H =>
  W.guarded v1 true (fun H k => k high_2 H) H fun v3 H =>
  W.guarded v1 true (fun H k => W.bin .leq v2 v3 H k) H fun v4 H =>
  W.pick v1 v4 (.bool false) H fun v5 H =>
  Q v5 H
theorem f49.enter {Q : Post} {n_0 : Value} {low_1 : Value} {high_2 : Value} {H : Heap} (h : f49.w Q n_0 low_1 high_2 H) : Runs Try.prog 49 #[n_0, low_1, high_2] H Q :=
  fn_enter (ann := []) (by kernel_rfl) Try.func49 rfl (by kernel_rfl) h (by kernel_rfl)
/- loop.example/g01343/spec.l01Copy -/
def f50.l1 (Q : Post) (v1 : Value) (v8 : Value) (v2 : Value) (I1 : St [4] → Heap → Prop) (i_4 : Value) (H : Heap) : Prop :=
  W.fieldAddr 0 v1 H fun v9 H =>
  W.get v9 H fun v10 H =>
  W.len v10 H fun v11 H =>
  W.bin .lss i_4 v11 H fun v12 H =>
  W.cond v12 H
  (fun H => W.fieldAddr 0 v8 H fun v13 H =>
   W.get v13 H fun v14 H =>
   W.fieldAddr 0 v1 H fun v15 H =>
   W.get v15 H fun v16 H =>
   W.indexAddr 1 v16 i_4 H fun v17 H =>
   W.get v17 H fun v18 H =>
   W.callQ Try.prog (.func (.func 67) #[] #[]) #[v18] H fun v19 H =>
   W.lit 1 [(.slice none 0 0)] 23 [(0, 1, v19)] H fun v20 H =>
   W.append 1 23 v14 v20 H fun v21 H =>
   W.fieldAddr 0 v8 H fun v22 H =>
   W.put v22 v21 H fun _ H =>
   W.bin .add i_4 (.int .i64 1) H fun v23 H =>
   I1 (v23, ()) H)
  (fun H => W.getN 2 v8 H fun v24 H =>
   W.putN 2 v2 v24 H fun _ H =>
   W.getN 2 v2 H fun v25 H => Q v25 H)
def f50.w (Q : Post) (p_0 : Value) (H : Heap) : Prop :=
  W.box p_0 25 H fun v1 H =>
  W.new [(.slice none 0 0), (.slice none 0 0)] 25 H fun v2 H =>
  W.lit 0 [(.slice none 0 0)] 23 [] H fun v3 H =>
  W.fieldAddr 1 v1 H fun v4 H =>
  W.get v4 H fun v5 H =>
  W.call Try.prog (.func (.func 67) #[] #[]) #[v5] H fun v6 H =>
  W.build [(.slice none 0 0), (.slice none 0 0)] [(0, 1, v3), (1, 1, v6)] H fun v7 H =>
  W.new [(.slice none 0 0), (.slice none 0 0)] 25 H fun v8 H =>
  W.putN 2 v8 v7 H fun _ H =>
  W.loop (S := St [4]) (fun I1 s H => f50.l1 Q v1 v8 v2 I1 s.1 H) ((.int .i64 0), ()) H
theorem f50.enter {Q : Post} {p_0 : Value} {H : Heap} (h : f50.w Q p_0 H) : Runs Try.prog 50 #[p_0] H Q :=
  fn_enter (ann := [(3, [4])]) (by kernel_rfl) Try.func50 rfl (by kernel_rfl) h (by kernel_rfl)
/- loop.example/g01343/impl.within -/
def f51.w (Q : Post) (n_0 : Value) (low_1 : Value) (high_2 : Value) (H : Heap) : Prop :=
  W.bin .geq n_0 low_1 H fun v1 H =>
  W.guarded v1 true (fun H k => k n_0 H) H fun v2 H =>
  W.guarded v1 true (fun H k => k high_2 H) H fun v3 H =>
  W.guarded v1 true (fun H k => W.bin .leq v2 v3 H k) H fun v4 H =>
  W.pick v1 v4 (.bool false) H fun v5 H =>
  Q v5 H
theorem f51.enter {Q : Post} {n_0 : Value} {low_1 : Value} {high_2 : Value} {H : Heap} (h : f51.w Q n_0 low_1 high_2 H) : Runs Try.prog 51 #[n_0, low_1, high_2] H Q :=
  fn_enter (ann := []) (by kernel_rfl) Try.func51 rfl (by kernel_rfl) h (by kernel_rfl)
/- (loop.example/g01343/impl.Problem).copied -/
def f52.w (Q : Post) (p_0 : Value) (H : Heap) : Prop :=
  W.box p_0 25 H fun v1 H =>
  W.new [(.slice none 0 0), (.slice none 0 0)] 25 H fun v2 H =>
  W.fieldAddr 0 v1 H fun v3 H =>
  W.get v3 H fun v4 H =>
  W.callQ Try.prog (.func (.func 68) #[] #[]) #[v4] H fun v5 H =>
  W.fieldAddr 1 v1 H fun v6 H =>
  W.get v6 H fun v7 H =>
  W.callQ Try.prog (.func (.func 69) #[] #[]) #[v7] H fun v8 H =>
  W.build [(.slice none 0 0), (.slice none 0 0)] [(0, 1, v5), (1, 1, v8)] H fun v9 H =>
  W.putN 2 v2 v9 H fun _ H =>
  W.getN 2 v2 H fun v10 H => Q v10 H
theorem f52.enter {Q : Post} {p_0 : Value} {H : Heap} (h : f52.w Q p_0 H) : Runs Try.prog 52 #[p_0] H Q :=
  fn_enter (ann := []) (by kernel_rfl) Try.func52 rfl (by kernel_rfl) h (by kernel_rfl)
/- loop.example/g01343/impl.limited -/
def f53.w (Q : Post) (p_0 : Value) (H : Heap) : Prop :=
  W.box p_0 25 H fun v1 H =>
  W.new [(.slice none 0 0), (.slice none 0 0)] 25 H fun v2 H =>
  W.getN 2 v1 H fun v3 H =>
  W.call Try.prog (.func (.func 36) #[] #[]) #[v3] H fun v4 H =>
  W.un .not v4 H fun v5 H =>
  W.cond v5 H
  (fun H => W.build [(.slice none 0 0), (.slice none 0 0)] [] H fun v6 H =>
   W.putN 2 v2 v6 H fun _ H =>
   W.getN 2 v2 H fun v7 H => Q (.tuple #[v7, (.int .i64 3)]) H)
  (fun H => W.getN 2 v1 H fun v8 H =>
   W.putN 2 v2 v8 H fun _ H =>
   W.getN 2 v2 H fun v9 H => Q (.tuple #[v9, (.int .i64 0)]) H)
theorem f53.enter {Q : Post} {p_0 : Value} {H : Heap} (h : f53.w Q p_0 H) : Runs Try.prog 53 #[p_0] H Q :=
  fn_enter (ann := []) (by kernel_rfl) Try.func53 rfl (by kernel_rfl) h (by kernel_rfl)
/- loop.example/g01343/spec.l01Order -/
def f57.l1 (Q : Post) (list_0 : Value) (n_1 : Value) (v1 : Value) (I1 : St [6] → Heap → Prop) (i_6 : Value) (H : Heap) : Prop :=
  W.len list_0 H fun v2 H =>
  W.bin .lss i_6 v2 H fun v3 H =>
  W.cond v3 H
  (fun H => W.indexAddr 1 list_0 i_6 H fun v4 H =>
   W.get v4 H fun v5 H =>
   W.bin .sub n_1 (.int .i64 1) H fun v6 H =>
   W.call Try.prog (.func (.func 49) #[] #[]) #[v5, (.int .i64 0), v6] H fun v7 H =>
   W.un .not v7 H fun v8 H =>
   W.guarded v8 false (fun H k => k v1 H) H fun v9 H =>
   W.guarded v8 false (fun H k => k list_0 H) H fun v10 H =>
   W.guarded v8 false (fun H k => k i_6 H) H fun v11 H =>
   W.guarded v8 false (fun H k => W.indexAddr 1 v10 v11 H k) H fun v12 H =>
   W.guarded v8 false (fun H k => W.get v12 H k) H fun v13 H =>
   W.guarded v8 false (fun H k => W.indexAddr 1 v9 v13 H k) H fun v14 H =>
   W.guarded v8 false (fun H k => W.get v14 H k) H fun v15 H =>
   W.pick v8 (.bool true) v15 H fun v16 H =>
   W.cond v16 H
   (fun H => Q (.bool false) H)
   (fun H => W.indexAddr 1 list_0 i_6 H fun v17 H =>
    W.get v17 H fun v18 H =>
    W.indexAddr 1 v1 v18 H fun v19 H =>
    W.put v19 (.bool true) H fun _ H =>
    W.bin .add i_6 (.int .i64 1) H fun v20 H =>
    I1 (v20, ()) H))
  (fun H => W.len list_0 H fun v21 H =>
   W.bin .eql v21 n_1 H fun v22 H =>
   Q v22 H)
def f57.w (Q : Post) (list_0 : Value) (n_1 : Value) (H : Heap) : Prop :=
  W.make [(.bool false)] 4 n_1 n_1 H fun v1 H =>
  W.loop (S := St [6]) (fun I1 s H => f57.l1 Q list_0 n_1 v1 I1 s.1 H) ((.int .i64 0), ()) H
theorem f57.enter {Q : Post} {list_0 : Value} {n_1 : Value} {H : Heap} (h : f57.w Q list_0 n_1 H) : Runs Try.prog 57 #[list_0, n_1] H Q :=
  fn_enter (ann := [(3, [6])]) (by kernel_rfl) Try.func57 rfl (by kernel_rfl) h (by kernel_rfl)
/- loop.example/g01343/impl.isOrder -/
def f58.l1 (Q : Post) (n_1 : Value) (list_0 : Value) (I1 : St [11] → Heap → Prop) (x_11 : Value) (H : Heap) : Prop :=
  W.bin .lss x_11 n_1 H fun v3 H =>
  W.cond v3 H
  (fun H => W.call Try.prog (.func (.func 70) #[] #[]) #[list_0, x_11] H fun v4 H =>
   W.un .not v4 H fun v5 H =>
   W.cond v5 H
   (fun H => Q (.bool false) H)
   (fun H => W.bin .add x_11 (.int .i64 1) H fun v6 H =>
    I1 (v6, ()) H))
  (fun H => Q (.bool true) H)
def f58.w (Q : Post) (list_0 : Value) (n_1 : Value) (H : Heap) : Prop :=
  W.len list_0 H fun v1 H =>
  W.bin .neq v1 n_1 H fun v2 H =>
  W.cond v2 H
  (fun H => Q (.bool false) H)
  (fun H => W.loop (S := St [11]) (fun I1 s H => f58.l1 Q n_1 list_0 I1 s.1 H) ((.int .i64 0), ()) H)
theorem f58.enter {Q : Post} {list_0 : Value} {n_1 : Value} {H : Heap} (h : f58.w Q list_0 n_1 H) : Runs Try.prog 58 #[list_0, n_1] H Q :=
  fn_enter (ann := [(4, [11])]) (by kernel_rfl) Try.func58 rfl (by kernel_rfl) h (by kernel_rfl)
/- loop.example/g01343/impl.IsMatrix -/
def f59.w (Q : Post) (m_0 : Value) (H : Heap) : Prop :=
  W.len m_0 H fun v1 H =>
  W.call Try.prog (.func (.func 51) #[] #[]) #[v1, (.int .i64 1), (.int .i64 5)] H fun v2 H =>
  W.guarded v2 true (fun H k => k m_0 H) H fun v3 H =>
  W.guarded v2 true (fun H k => k m_0 H) H fun v4 H =>
  W.guarded v2 true (fun H k => W.len v4 H k) H fun v5 H =>
  W.guarded v2 true (fun H k => W.call Try.prog (.func (.func 42) #[] #[]) #[v3, v5] H k) H fun v6 H =>
  W.pick v2 v6 (.bool false) H fun v7 H =>
  W.guarded v7 true (fun H k => k m_0 H) H fun v8 H =>
  W.guarded v7 true (fun H k => W.call Try.prog (.func (.func 60) #[] #[]) #[v8, (.func (.func 71) #[] #[])] H k) H fun v9 H =>
  W.guarded v7 true (fun H k => W.un .not v9 H k) H fun v10 H =>
  W.pick v7 v10 (.bool false) H fun v11 H =>
  Q v11 H
theorem f59.enter {Q : Post} {m_0 : Value} {H : Heap} (h : f59.w Q m_0 H) : Runs Try.prog 59 #[m_0] H Q :=
  fn_enter (ann := []) (by kernel_rfl) Try.func59 rfl (by kernel_rfl) h (by kernel_rfl)
/- slices.ContainsFunc[[][]int64,[]int64] -/
def f60.w (Q : Post) (s_0 : Value) (f_1 : Value) (H : Heap) : Prop :=
  W.call Try.prog (.func (.func 72) #[] #[]) #[s_0, f_1] H fun v1 H =>
  W.bin .geq v1 (.int .i64 0) H fun v2 H =>
  Q v2 H
theorem f60.enter {Q : Post} {s_0 : Value} {f_1 : Value} {H : Heap} (h : f60.w Q s_0 f_1 H) : Runs Try.prog 60 #[s_0, f_1] H Q :=
  fn_enter (ann := []) (by kernel_rfl) Try.func60 rfl (by kernel_rfl) h (by kernel_rfl)
/- loop.example/g01343/impl.isSquare$1 -/
def f61.w (Q : Post) (row_0 : Value) (x_1 : Value) (H : Heap) : Prop :=
  W.len row_0 H fun v1 H =>
  W.get x_1 H fun v2 H =>
  W.bin .neq v1 v2 H fun v3 H =>
  Q v3 H
theorem f61.enter {Q : Post} {row_0 : Value} {x_1 : Value} {H : Heap} (h : f61.w Q row_0 x_1 H) : Runs Try.prog 61 #[row_0, x_1] H Q :=
  fn_enter (ann := []) (by kernel_rfl) Try.func61 rfl (by kernel_rfl) h (by kernel_rfl)
/- slices.ContainsFunc[[]int64,int64] -/
def f62.w (Q : Post) (s_0 : Value) (f_1 : Value) (H : Heap) : Prop :=
  W.call Try.prog (.func (.func 73) #[] #[]) #[s_0, f_1] H fun v1 H =>
  W.bin .geq v1 (.int .i64 0) H fun v2 H =>
  Q v2 H
theorem f62.enter {Q : Post} {s_0 : Value} {f_1 : Value} {H : Heap} (h : f62.w Q s_0 f_1 H) : Runs Try.prog 62 #[s_0, f_1] H Q :=
  fn_enter (ann := []) (by kernel_rfl) Try.func62 rfl (by kernel_rfl) h (by kernel_rfl)
/- loop.example/g01343/impl.allUpTo$1 -/
def f63.w (Q : Post) (n_0 : Value) (x_1 : Value) (H : Heap) : Prop :=
  W.get x_1 H fun v1 H =>
  W.call Try.prog (.func (.func 64) #[] #[]) #[n_0, v1] H fun v2 H =>
  W.un .not v2 H fun v3 H =>
  Q v3 H
theorem f63.enter {Q : Post} {n_0 : Value} {x_1 : Value} {H : Heap} (h : f63.w Q n_0 x_1 H) : Runs Try.prog 63 #[n_0, x_1] H Q :=
  fn_enter (ann := []) (by kernel_rfl) Try.func63 rfl (by kernel_rfl) h (by kernel_rfl)
/- loop.example/g01343/impl.upTo -/
def f64.w (Q : Post) (n_0 : Value) (most_1 : Value) (H : Heap) : Prop :=
  W.un .neg most_1 H fun v1 H =>
  W.call Try.prog (.func (.func 51) #[] #[]) #[n_0, v1, most_1] H fun v2 H =>
  Q v2 H
theorem f64.enter {Q : Post} {n_0 : Value} {most_1 : Value} {H : Heap} (h : f64.w Q n_0 most_1 H) : Runs Try.prog 64 #[n_0, most_1] H Q :=
  fn_enter (ann := []) (by kernel_rfl) Try.func64 rfl (by kernel_rfl) h (by kernel_rfl)
/- loop.example/g01343/spec.l01Matrix -/
def f66.l2 (Q : Post) (v1 : Value) (m_0 : Value) (i_4 : Value) (I1 : St [4] → Heap → Prop) (I2 : St [5] → Heap → Prop) (k_5 : Value) (H : Heap) : Prop :=
  W.bin .lss k_5 v1 H fun v11 H =>
  W.cond v11 H
  (fun H => W.indexAddr 1 m_0 i_4 H fun v12 H =>
   W.get v12 H fun v13 H =>
   W.indexAddr 1 v13 k_5 H fun v14 H =>
   W.get v14 H fun v15 H =>
   W.call Try.prog (.func (.func 49) #[] #[]) #[v15, (.int .i64 (-20)), (.int .i64 20)] H fun v16 H =>
   W.un .not v16 H fun v17 H =>
   W.cond v17 H
   (fun H => Q (.bool false) H)
   (fun H => W.bin .add k_5 (.int .i64 1) H fun v18 H =>
    I2 (v18, ()) H))
  (fun H => W.bin .add i_4 (.int .i64 1) H fun v19 H =>
   I1 (v19, ()) H)
def f66.l1 (Q : Post) (v1 : Value) (m_0 : Value) (I1 : St [4] → Heap → Prop) (i_4 : Value) (H : Heap) : Prop :=
  W.bin .lss i_4 v1 H fun v6 H =>
  W.cond v6 H
  (fun H => W.indexAddr 1 m_0 i_4 H fun v7 H =>
   W.get v7 H fun v8 H =>
   W.len v8 H fun v9 H =>
   W.bin .neq v9 v1 H fun v10 H =>
   W.cond v10 H
   (fun H => Q (.bool false) H)
   (fun H => W.loop (S := St [5]) (fun I2 s H => f66.l2 Q v1 m_0 i_4 I1 I2 s.1 H) ((.int .i64 0), ()) H))
  (fun H => Q (.bool true) H)
def f66.w (Q : Post) (m_0 : Value) (H : Heap) : Prop :=
  W.len m_0 H fun v1 H =>
  W.bin .lss v1 (.int .i64 1) H fun v2 H =>
  W.guarded v2 false (fun H k => k v1 H) H fun v3 H =>
  W.guarded v2 false (fun H k => W.bin .gtr v3 (.int .i64 5) H k) H fun v4 H =>
  W.pick v2 (.bool true) v4 H fun v5 H =>
  W.cond v5 H
  (fun H => Q (.bool false) H)
  (fun H => W.loop (S := St [4]) (fun I1 s H => f66.l1 Q v1 m_0 I1 s.1 H) ((.int .i64 0), ()) H)
theorem f66.enter {Q : Post} {m_0 : Value} {H : Heap} (h : f66.w Q m_0 H) : Runs Try.prog 66 #[m_0] H Q :=
  fn_enter (ann := [(5, [4]), (10, [5])]) (by kernel_rfl) Try.func66 rfl (by kernel_rfl) h (by kernel_rfl)
/- loop.example/g01343/spec.l01Own -/
def f67.w (Q : Post) (list_0 : Value) (H : Heap) : Prop :=
  W.lit 0 [(.int .i64 0)] 2 [] H fun v1 H =>
  W.append 1 2 v1 list_0 H fun v2 H =>
  Q v2 H
theorem f67.enter {Q : Post} {list_0 : Value} {H : Heap} (h : f67.w Q list_0 H) : Runs Try.prog 67 #[list_0] H Q :=
  fn_enter (ann := []) (by kernel_rfl) Try.func67 rfl (by kernel_rfl) h (by kernel_rfl)
/- loop.example/g01343/impl.copyRows -/
def f68.l1 (Q : Post) (v1 : Value) (rows_0 : Value) (I1 : St [3, 8] → Heap → Prop) (out_3 : Value) (x_8 : Value) (H : Heap) : Prop :=
  W.bin .lss x_8 v1 H fun v2 H =>
  W.cond v2 H
  (fun H => W.indexAddr 1 rows_0 x_8 H fun v3 H =>
   W.get v3 H fun v4 H =>
   W.call Try.prog (.func (.func 69) #[] #[]) #[v4] H fun v5 H =>
   W.lit 1 [(.slice none 0 0)] 23 [(0, 1, v5)] H fun v6 H =>
   W.append 1 23 out_3 v6 H fun v7 H =>
   W.bin .add x_8 (.int .i64 1) H fun v8 H =>
   I1 (v7, v8, ()) H)
  (fun H => Q out_3 H)
def f68.w (Q : Post) (rows_0 : Value) (H : Heap) : Prop :=
  W.len rows_0 H fun v1 H =>
  W.loop (S := St [3, 8]) (fun I1 s H => f68.l1 Q v1 rows_0 I1 s.1 s.2.1 H) ((.slice none 0 0), (.int .i64 0), ()) H
theorem f68.enter {Q : Post} {rows_0 : Value} {H : Heap} (h : f68.w Q rows_0 H) : Runs Try.prog 68 #[rows_0] H Q :=
  fn_enter (ann := [(3, [3, 8])]) (by kernel_rfl) Try.func68 rfl (by kernel_rfl) h (by kernel_rfl)
/- slices.Clone[[]int64,int64] -/
def f69.w (Q : Post) (s_0 : Value) (H : Heap) : Prop :=
  W.eqNilR .eql s_0 (.slice none 0 0) H fun v1 H =>
  W.cond v1 H
  (fun H => Q (.slice none 0 0) H)
  (fun H => W.lit 0 [(.int .i64 0)] 2 [] H fun v2 H =>
   W.append 1 2 v2 s_0 H fun v3 H =>
   Q v3 H)
theorem f69.enter {Q : Post} {s_0 : Value} {H : Heap} (h : f69.w Q s_0 H) : Runs Try.prog 69 #[s_0] H Q :=
  fn_enter (ann := []) (by kernel_rfl) Try.func69 rfl (by kernel_rfl) h (by kernel_rfl)
/- slices.Contains[[]int64,int64] -/
def f70.w (Q : Post) (s_0 : Value) (v_1 : Value) (H : Heap) : Prop :=
  W.call Try.prog (.func (.func 74) #[] #[]) #[s_0, v_1] H fun v1 H =>
  W.bin .geq v1 (.int .i64 0) H fun v2 H =>
  Q v2 H
theorem f70.enter {Q : Post} {s_0 : Value} {v_1 : Value} {H : Heap} (h : f70.w Q s_0 v_1 H) : Runs Try.prog 70 #[s_0, v_1] H Q :=
  fn_enter (ann := []) (by kernel_rfl) Try.func70 rfl (by kernel_rfl) h (by kernel_rfl)
/- loop.example/g01343/impl.IsMatrix$1 -/
def f71.w (Q : Post) (row_0 : Value) (H : Heap) : Prop :=
  W.call Try.prog (.func (.func 43) #[] #[]) #[row_0, (.int .i64 20)] H fun v1 H =>
  W.un .not v1 H fun v2 H =>
  Q v2 H
theorem f71.enter {Q : Post} {row_0 : Value} {H : Heap} (h : f71.w Q row_0 H) : Runs Try.prog 71 #[row_0] H Q :=
  fn_enter (ann := []) (by kernel_rfl) Try.func71 rfl (by kernel_rfl) h (by kernel_rfl)
/- slices.IndexFunc[[][]int64,[]int64] -/
def f72.l1 (Q : Post) (v1 : Value) (s_0 : Value) (f_1 : Value) (I1 : St [8] → Heap → Prop) (x_8 : Value) (H : Heap) : Prop :=
  W.bin .lss x_8 v1 H fun v2 H =>
  W.cond v2 H
  (fun H => W.indexAddr 1 s_0 x_8 H fun v3 H =>
   W.get v3 H fun v4 H =>
   W.call Try.prog f_1 #[v4] H fun v5 H =>
   W.cond v5 H
   (fun H => Q x_8 H)
   (fun H => W.bin .add x_8 (.int .i64 1) H fun v6 H =>
    I1 (v6, ()) H))
  (fun H => Q (.int .i64 (-1)) H)
def f72.w (Q : Post) (s_0 : Value) (f_1 : Value) (H : Heap) : Prop :=
  W.len s_0 H fun v1 H =>
  W.loop (S := St [8]) (fun I1 s H => f72.l1 Q v1 s_0 f_1 I1 s.1 H) ((.int .i64 0), ()) H
theorem f72.enter {Q : Post} {s_0 : Value} {f_1 : Value} {H : Heap} (h : f72.w Q s_0 f_1 H) : Runs Try.prog 72 #[s_0, f_1] H Q :=
  fn_enter (ann := [(2, [8])]) (by kernel_rfl) Try.func72 rfl (by kernel_rfl) h (by kernel_rfl)
/- slices.IndexFunc[[]int64,int64] -/
def f73.l1 (Q : Post) (v1 : Value) (s_0 : Value) (f_1 : Value) (I1 : St [8] → Heap → Prop) (x_8 : Value) (H : Heap) : Prop :=
  W.bin .lss x_8 v1 H fun v2 H =>
  W.cond v2 H
  (fun H => W.indexAddr 1 s_0 x_8 H fun v3 H =>
   W.get v3 H fun v4 H =>
   W.call Try.prog f_1 #[v4] H fun v5 H =>
   W.cond v5 H
   (fun H => Q x_8 H)
   (fun H => W.bin .add x_8 (.int .i64 1) H fun v6 H =>
    I1 (v6, ()) H))
  (fun H => Q (.int .i64 (-1)) H)
def f73.w (Q : Post) (s_0 : Value) (f_1 : Value) (H : Heap) : Prop :=
  W.len s_0 H fun v1 H =>
  W.loop (S := St [8]) (fun I1 s H => f73.l1 Q v1 s_0 f_1 I1 s.1 H) ((.int .i64 0), ()) H
theorem f73.enter {Q : Post} {s_0 : Value} {f_1 : Value} {H : Heap} (h : f73.w Q s_0 f_1 H) : Runs Try.prog 73 #[s_0, f_1] H Q :=
  fn_enter (ann := [(2, [8])]) (by kernel_rfl) Try.func73 rfl (by kernel_rfl) h (by kernel_rfl)
/- slices.Index[[]int64,int64] -/
def f74.l1 (Q : Post) (v1 : Value) (s_0 : Value) (v_1 : Value) (I1 : St [8] → Heap → Prop) (x_8 : Value) (H : Heap) : Prop :=
  W.bin .lss x_8 v1 H fun v2 H =>
  W.cond v2 H
  (fun H => W.indexAddr 1 s_0 x_8 H fun v3 H =>
   W.get v3 H fun v4 H =>
   W.bin .eql v_1 v4 H fun v5 H =>
   W.cond v5 H
   (fun H => Q x_8 H)
   (fun H => W.bin .add x_8 (.int .i64 1) H fun v6 H =>
    I1 (v6, ()) H))
  (fun H => Q (.int .i64 (-1)) H)
def f74.w (Q : Post) (s_0 : Value) (v_1 : Value) (H : Heap) : Prop :=
  W.len s_0 H fun v1 H =>
  W.loop (S := St [8]) (fun I1 s H => f74.l1 Q v1 s_0 v_1 I1 s.1 H) ((.int .i64 0), ()) H
theorem f74.enter {Q : Post} {s_0 : Value} {v_1 : Value} {H : Heap} (h : f74.w Q s_0 v_1 H) : Runs Try.prog 74 #[s_0, v_1] H Q :=
  fn_enter (ann := [(2, [8])]) (by kernel_rfl) Try.func74 rfl (by kernel_rfl) h (by kernel_rfl)
end Go.Proofs.Ytanpnljhopankaa
