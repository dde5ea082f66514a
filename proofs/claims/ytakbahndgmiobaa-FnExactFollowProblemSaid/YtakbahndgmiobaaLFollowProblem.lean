/- The law FnExactFollowProblem answers true on any abstract heap that holds its arguments. No condition. -/
import Derived.Test.YtakbahndgmiobaaFP2
import Derived.Test.YtakbahndgmiobaaA5
import Derived.Test.YtakbahndgmiobaaA6
import Derived.Test.YtakbahndgmiobaaW2
namespace Go.Proofs.Ytakbahndgmiobaa
open Go.Ab

/- loop.example/g01343/laws.FnExactFollowProblem -/
def f5.w (Q : Post) (aP_0 : Value) (aD_1 : Value) (H : Heap) : Prop :=
  W.box aP_0 25 H fun v1 H =>
  W.len aD_1 H fun v2 H =>
  W.bin .gtr v2 (.int .i64 1048576) H fun v3 H =>
  W.cond v3 H
  (fun H => Q (.bool true) H)
  (fun H => W.getN 2 v1 H fun v4 H =>
   W.call Try.prog (.func (.func 6) #[] #[]) #[v4, (.int .i64 1048576)] H fun v5 H =>
   W.bin .lss v5 (.int .i64 0) H fun v6 H =>
   W.cond v6 H
   (fun H => Q (.bool true) H)
   (fun H => W.getN 2 v1 H fun v7 H =>
    W.call Try.prog (.func (.func 8) #[] #[]) #[v7] H fun v8 H =>
    W.call Try.prog (.func (.func 9) #[] #[]) #[aD_1] H fun v9 H =>
    W.call Try.prog (.func (.func 23) #[] #[]) #[v8, v9] H fun v10 H =>
    W.extract 0 v10 H fun v11 H =>
    W.extract 1 v10 H fun v12 H =>
    W.extract 2 v10 H fun v13 H =>
    W.getN 2 v1 H fun v14 H =>
    W.call Try.prog (.func (.func 8) #[] #[]) #[v14] H fun v15 H =>
    W.new [(.slice none 0 0), (.slice none 0 0)] 31 H fun v16 H =>
    W.putN 2 v16 v15 H fun _ H =>
    W.call Try.prog (.func (.func 9) #[] #[]) #[aD_1] H fun v17 H =>
    W.getN 2 v16 H fun v18 H =>
    W.call Try.prog (.func (.func 24) #[] #[]) #[v18, v17] H fun v19 H =>
    W.extract 0 v19 H fun v20 H =>
    W.extract 1 v19 H fun v21 H =>
    W.extract 2 v19 H fun v22 H =>
    W.call Try.prog (.func (.func 13) #[] #[]) #[v20, v11] H fun v23 H =>
    W.un .not v23 H fun v24 H =>
    W.guarded v24 false (fun H k => k v21 H) H fun v25 H =>
    W.guarded v24 false (fun H k => k v12 H) H fun v26 H =>
    W.guarded v24 false (fun H k => W.call Try.prog (.func (.func 18) #[] #[]) #[v25, v26] H k) H fun v27 H =>
    W.guarded v24 false (fun H k => W.un .not v27 H k) H fun v28 H =>
    W.pick v24 (.bool true) v28 H fun v29 H =>
    W.guarded v29 false (fun H k => k v22 H) H fun v30 H =>
    W.guarded v29 false (fun H k => k v13 H) H fun v31 H =>
    W.guarded v29 false (fun H k => W.bin .neq v30 v31 H k) H fun v32 H =>
    W.pick v29 (.bool true) v32 H fun v33 H =>
    W.cond v33 H
    (fun H => Q (.bool false) H)
    (fun H => W.getN 2 v16 H fun v34 H =>
     W.getN 2 v1 H fun v35 H =>
     W.callQ Try.prog (.func (.func 8) #[] #[]) #[v35] H fun v36 H =>
     W.callQ Try.prog (.func (.func 12) #[] #[]) #[v34, v36] H fun v37 H =>
     W.un .not v37 H fun v38 H =>
     W.cond v38 H
     (fun H => Q (.bool false) H)
     (fun H => W.call Try.prog (.func (.func 9) #[] #[]) #[aD_1] H fun v39 H =>
      W.call Try.prog (.func (.func 13) #[] #[]) #[v17, v39] H fun v40 H =>
      W.un .not v40 H fun v41 H =>
      W.cond v41 H
      (fun H => Q (.bool false) H)
      (fun H => W.getN 2 v16 H fun v42 H =>
       W.call Try.prog (.func (.func 25) #[] #[]) #[v42, (.int .i64 1)] H fun v43 H =>
       W.call Try.prog (.func (.func 26) #[] #[]) #[v17, v43] H fun v44 H =>
       W.bin .lss v44 (.int .i64 0) H fun v45 H =>
       W.guarded v45 false (fun H k => k v20 H) H fun v46 H =>
       W.guarded v45 false (fun H k => k v11 H) H fun v47 H =>
       W.guarded v45 false (fun H k => W.call Try.prog (.func (.func 13) #[] #[]) #[v46, v47] H k) H fun v48 H =>
       W.guarded v45 false (fun H k => W.un .not v48 H k) H fun v49 H =>
       W.pick v45 (.bool true) v49 H fun v50 H =>
       W.guarded v50 false (fun H k => k v21 H) H fun v51 H =>
       W.guarded v50 false (fun H k => k v12 H) H fun v52 H =>
       W.guarded v50 false (fun H k => W.call Try.prog (.func (.func 18) #[] #[]) #[v51, v52] H k) H fun v53 H =>
       W.guarded v50 false (fun H k => W.un .not v53 H k) H fun v54 H =>
       W.pick v50 (.bool true) v54 H fun v55 H =>
       W.guarded v55 false (fun H k => k v22 H) H fun v56 H =>
       W.guarded v55 false (fun H k => k v13 H) H fun v57 H =>
       W.guarded v55 false (fun H k => W.bin .neq v56 v57 H k) H fun v58 H =>
       W.pick v55 (.bool true) v58 H fun v59 H =>
       W.cond v59 H
       (fun H => Q (.bool false) H)
       (fun H => W.call Try.prog (.func (.func 26) #[] #[]) #[v20, (.int .i64 1)] H fun v60 H =>
        W.call Try.prog (.func (.func 21) #[] #[]) #[v21, v60] H fun v61 H =>
        W.call Try.prog (.func (.func 27) #[] #[]) #[v20, (.int .i64 1)] H fun v62 H =>
        W.bin .lss v62 (.int .i64 0) H fun v63 H =>
        W.cond v63 H
        (fun H => Q (.bool false) H)
        (fun H => W.call Try.prog (.func (.func 22) #[] #[]) #[v21, v62] H fun v64 H =>
         W.bin .lss v64 (.int .i64 0) H fun v65 H =>
         W.cond v65 H
         (fun H => Q (.bool false) H)
         (fun H => W.bin .neq v64 v61 H fun v66 H =>
          W.cond v66 H
          (fun H => Q (.bool false) H)
          (fun H => W.getN 2 v1 H fun v67 H =>
           W.call Try.prog (.func (.func 8) #[] #[]) #[v67] H fun v68 H =>
           W.call Try.prog (.func (.func 9) #[] #[]) #[aD_1] H fun v69 H =>
           W.call Try.prog (.func (.func 24) #[] #[]) #[v68, v69] H fun v70 H =>
           W.extract 0 v70 H fun v71 H =>
           W.extract 1 v70 H fun v72 H =>
           W.extract 2 v70 H fun v73 H =>
           W.call Try.prog (.func (.func 13) #[] #[]) #[v71, v11] H fun v74 H =>
           W.un .not v74 H fun v75 H =>
           W.guarded v75 false (fun H k => k v72 H) H fun v76 H =>
           W.guarded v75 false (fun H k => k v12 H) H fun v77 H =>
           W.guarded v75 false (fun H k => W.call Try.prog (.func (.func 18) #[] #[]) #[v76, v77] H k) H fun v78 H =>
           W.guarded v75 false (fun H k => W.un .not v78 H k) H fun v79 H =>
           W.pick v75 (.bool true) v79 H fun v80 H =>
           W.guarded v80 false (fun H k => k v73 H) H fun v81 H =>
           W.guarded v80 false (fun H k => k v13 H) H fun v82 H =>
           W.guarded v80 false (fun H k => W.bin .neq v81 v82 H k) H fun v83 H =>
           W.pick v80 (.bool true) v83 H fun v84 H =>
           W.cond v84 H
           (fun H => Q (.bool false) H)
           (fun H => W.call Try.prog (.func (.func 27) #[] #[]) #[v20, (.int .i64 1)] H fun v85 H =>
            W.bin .lss v85 (.int .i64 0) H fun v86 H =>
            W.cond v86 H
            (fun H => Q (.bool false) H)
            (fun H => W.call Try.prog (.func (.func 22) #[] #[]) #[v21, v85] H fun v87 H =>
             W.bin .lss v87 (.int .i64 0) H fun v88 H =>
             W.cond v88 H
             (fun H => Q (.bool false) H)
             (fun H => W.bin .neq v87 v61 H fun v89 H =>
              W.cond v89 H
              (fun H => Q (.bool false) H)
              (fun H => Q (.bool true) H)))))))))))))
theorem f5.enter {Q : Post} {aP_0 : Value} {aD_1 : Value} {H : Heap} (h : f5.w Q aP_0 aD_1 H) : Runs Try.prog 5 #[aP_0, aD_1] H Q :=
  fn_enter (ann := []) (by kernel_rfl) Try.func5 rfl (by kernel_rfl) h (by kernel_rfl)

theorem law5 {H0 : Heap} {bs0 : List Nat} {cs0 : List Value} {x0 : _} (hr0 : RProblem.rel H0 bs0 cs0 x0) {bs1 : List Nat} {v1 : Value} {x1 : _} (hr1 : RS.rel H0 bs1 [v1] x1) : Runs Try.prog 5 #[.agg cs0.toArray, v1] H0 (fun v _ => v = .bool true) := by
  refine f5.enter ?_
  unfold f5.w
  have h := Loc.start H0
  have h := h.lent ⟨_, hr0⟩
  have lc0 := RProblem.len hr0
  have cc0 := RProblem.cell hr0
  have h := h.lent ⟨_, hr1⟩
  have hsz0 := folRes_sz x0 x1 
  have hsz1 :=  folRes_sz2 x0 x1 
  have hsz2 :=  wProblem_le x0 
  have hsz3 :=  Nat.le_of_eq (szS_len x1)
  refine Wl.box h fun H b1 h => ?_
  refine Wl.len h ?_
  refine Wi.gtrC (fun _ => Wi.tru (by first | exact rfl | trivial)) fun _ => Wi.fls ?_
  refine Wl.getA h lc0 ?_
  refine Wl.szA sz6 h h.rd (by omega) (by omega) (fun _ H h => ?_) fun _ H h => Wi.lss (Wi.tru (by first | exact rfl | trivial))
  refine Wi.lssC (fun h => by omega) fun _ => ?_
  try simp only [gw]
  refine Wl.getA h lc0 ?_
  refine Wl.toA to8 h h.rd (by omega) fun H c2 l h => ?_
  have lc_c2 := (h.rd (cs := c2)).len
  have cc_c2 := (h.rd (cs := c2)).cell
  refine Wl.toC to9 h h.rd (by omega) fun H u3 l h => ?_
  refine Wi.call (fn23 h.rd h.rd (by omega) (by omega) fun H u4 u5 f => ?_)
  have h := h.add2 (c1 := [u4]) (c2 := [u5]) rfl f
  try simp only [gw]
  refine Wl.getA h lc0 ?_
  refine Wl.toA to8 h h.rd (by omega) fun H c6 l h => ?_
  have lc_c6 := (h.rd (cs := c6)).len
  have cc_c6 := (h.rd (cs := c6)).cell
  refine Wl.new h fun H b7 h => ?_
  refine Wl.putA h rfl lc_c6 cc_c6 fun H h => ?_
  refine Wl.toC to9 h h.rd (by omega) fun H u8 l h => ?_
  refine Wl.getA h lc_c6 ?_
  refine Wi.call (fn24 h.rd h.rd (by omega) (by omega) fun H u9 u10 f => ?_)
  have h := h.add2 (c1 := [u9]) (c2 := [u10]) rfl f
  try simp only [gw]
  refine Wl.eqC eq13 h h.rd h.rd fun H l h => ?_
  try simp only [gw]
  refine Wl.eqC eq18 h h.rd h.rd fun H l h => ?_
  try simp only [gw]
  refine Wi.neqC (fun h => absurd rfl h) fun _ => ?_
  try simp only [gw]
  refine Wl.getA h lc_c6 ?_
  refine Wl.getA h lc0 ?_
  refine Wl.toA to8 h h.rd (by omega) fun H c11 l h => ?_
  refine ⟨l, ?_⟩
  have lc_c11 := (h.rd (cs := c11)).len
  have cc_c11 := (h.rd (cs := c11)).cell
  refine Wl.eqA eq12 h h.rd h.rd fun H l h => ?_
  refine ⟨l, ?_⟩
  try simp only [gw]
  refine Wl.toC to9 h h.rd (by omega) fun H u12 l h => ?_
  refine Wl.eqC eq13 h h.rd h.rd fun H l h => ?_
  try simp only [gw]
  refine Wl.getA h lc_c6 ?_
  refine Wl.markA mark25 h (by omega) (by omega) fun H h => ?_
  refine Wl.markC mark26 h (by omega) (by omega) fun H h => ?_
  refine Wi.lssC (fun h => by omega) fun _ => ?_
  try simp only [gw]
  refine Wl.eqC eq13 h h.rd h.rd fun H l h => ?_
  try simp only [gw]
  refine Wl.eqC eq18 h h.rd h.rd fun H l h => ?_
  try simp only [gw]
  refine Wi.neqC (fun h => absurd rfl h) fun _ => ?_
  try simp only [gw]
  refine Wl.markC mark26 h (by omega) (by omega) fun H h => ?_
  refine Wl.markC mark21 h (by omega) (by omega) fun H h => ?_
  refine Wl.heldC held27 h h.rd (by omega) (by omega) fun H h => ?_
  refine Wi.lssC (fun h => by omega) fun _ => ?_
  try simp only [gw]
  refine Wl.heldC held22 h h.rd (by omega) (by omega) fun H h => ?_
  refine Wi.lssC (fun h => by omega) fun _ => ?_
  try simp only [gw]
  refine Wi.neqC (fun h => absurd rfl h) fun _ => ?_
  try simp only [gw]
  refine Wl.getA h lc0 ?_
  refine Wl.toA to8 h h.rd (by omega) fun H c13 l h => ?_
  have lc_c13 := (h.rd (cs := c13)).len
  have cc_c13 := (h.rd (cs := c13)).cell
  refine Wl.toC to9 h h.rd (by omega) fun H u14 l h => ?_
  refine Wi.call (fn24 h.rd h.rd (by omega) (by omega) fun H u15 u16 f => ?_)
  have h := h.add2 (c1 := [u15]) (c2 := [u16]) rfl f
  try simp only [gw]
  refine Wl.eqC eq13 h h.rd h.rd fun H l h => ?_
  try simp only [gw]
  refine Wl.eqC eq18 h h.rd h.rd fun H l h => ?_
  try simp only [gw]
  refine Wi.neqC (fun h => absurd rfl h) fun _ => ?_
  try simp only [gw]
  refine Wl.heldC held27 h h.rd (by omega) (by omega) fun H h => ?_
  refine Wi.lssC (fun h => by omega) fun _ => ?_
  try simp only [gw]
  refine Wl.heldC held22 h h.rd (by omega) (by omega) fun H h => ?_
  refine Wi.lssC (fun h => by omega) fun _ => ?_
  try simp only [gw]
  refine Wi.neqC (fun h => absurd rfl h) fun _ => ?_
  try simp only [gw]
  all_goals first | rfl | trivial


end Go.Proofs.Ytakbahndgmiobaa
