/- The law FnExactMinimumOf answers true on any abstract heap that holds its argument. No condition. -/
import Derived.Test.YtmhbbkidedjefaaGreatMO1
import Derived.Test.YtmhbbkidedjefaaGreatMO2
import Derived.Test.YtmhbbkidedjefaaGreatA5
import Derived.Test.YtmhbbkidedjefaaGreatA6
import Derived.Test.YtmhbbkidedjefaaGreatW1
namespace Go.Proofs.YtmhbbkidedjefaaGreat
open Go.Ab

/- loop.example/g01343/laws.FnExactMinimumOf -/
def f3.w (Q : Post) (aP_0 : Value) (H : Heap) : Prop :=
  W.box aP_0 25 H fun v1 H =>
  W.getN 4 v1 H fun v2 H =>
  W.call Tryz.prog (.func (.func 4) #[] #[]) #[v2, (.int .i64 1048576)] H fun v3 H =>
  W.bin .lss v3 (.int .i64 0) H fun v4 H =>
  W.cond v4 H
  (fun H => Q (.bool true) H)
  (fun H => W.getN 4 v1 H fun v5 H =>
   W.call Tryz.prog (.func (.func 6) #[] #[]) #[v5] H fun v6 H =>
   W.call Tryz.prog (.func (.func 5) #[] #[]) #[v6] H fun v7 H =>
   W.extract 0 v7 H fun v8 H =>
   W.extract 1 v7 H fun v9 H =>
   W.extract 2 v7 H fun v10 H =>
   W.extract 3 v7 H fun v11 H =>
   W.new [(.int .i64 0), (.int .i64 0)] 29 H fun v12 H =>
   W.putN 2 v12 v10 H fun _ H =>
   W.getN 4 v1 H fun v13 H =>
   W.call Tryz.prog (.func (.func 6) #[] #[]) #[v13] H fun v14 H =>
   W.new [(.slice none 0 0), (.slice none 0 0), (.slice none 0 0), (.slice none 0 0)] 32 H fun v15 H =>
   W.putN 4 v15 v14 H fun _ H =>
   W.getN 4 v15 H fun v16 H =>
   W.call Tryz.prog (.func (.func 7) #[] #[]) #[v16] H fun v17 H =>
   W.extract 0 v17 H fun v18 H =>
   W.extract 1 v17 H fun v19 H =>
   W.extract 2 v17 H fun v20 H =>
   W.extract 3 v17 H fun v21 H =>
   W.new [(.int .i64 0), (.int .i64 0)] 29 H fun v22 H =>
   W.putN 2 v22 v20 H fun _ H =>
   W.call Tryz.prog (.func (.func 8) #[] #[]) #[v18, v8] H fun v23 H =>
   W.un .not v23 H fun v24 H =>
   W.guarded v24 false (fun H k => k v19 H) H fun v25 H =>
   W.guarded v24 false (fun H k => k v9 H) H fun v26 H =>
   W.guarded v24 false (fun H k => W.call Tryz.prog (.func (.func 8) #[] #[]) #[v25, v26] H k) H fun v27 H =>
   W.guarded v24 false (fun H k => W.un .not v27 H k) H fun v28 H =>
   W.pick v24 (.bool true) v28 H fun v29 H =>
   W.guarded v29 false (fun H k => W.getN 2 v22 H k) H fun v30 H =>
   W.guarded v29 false (fun H k => W.getN 2 v12 H k) H fun v31 H =>
   W.guarded v29 false (fun H k => W.call Tryz.prog (.func (.func 9) #[] #[]) #[v30, v31] H k) H fun v32 H =>
   W.guarded v29 false (fun H k => W.un .not v32 H k) H fun v33 H =>
   W.pick v29 (.bool true) v33 H fun v34 H =>
   W.guarded v34 false (fun H k => k v21 H) H fun v35 H =>
   W.guarded v34 false (fun H k => k v11 H) H fun v36 H =>
   W.guarded v34 false (fun H k => W.bin .neq v35 v36 H k) H fun v37 H =>
   W.pick v34 (.bool true) v37 H fun v38 H =>
   W.cond v38 H
   (fun H => Q (.bool false) H)
   (fun H => W.getN 4 v15 H fun v39 H =>
    W.getN 4 v1 H fun v40 H =>
    W.callQ Tryz.prog (.func (.func 6) #[] #[]) #[v40] H fun v41 H =>
    W.callQ Tryz.prog (.func (.func 10) #[] #[]) #[v39, v41] H fun v42 H =>
    W.un .not v42 H fun v43 H =>
    W.cond v43 H
    (fun H => Q (.bool false) H)
    (fun H => W.getN 4 v15 H fun v44 H =>
     W.call Tryz.prog (.func (.func 11) #[] #[]) #[v44, (.int .i64 1)] H fun v45 H =>
     W.bin .lss v45 (.int .i64 0) H fun v46 H =>
     W.guarded v46 false (fun H k => k v18 H) H fun v47 H =>
     W.guarded v46 false (fun H k => k v8 H) H fun v48 H =>
     W.guarded v46 false (fun H k => W.call Tryz.prog (.func (.func 8) #[] #[]) #[v47, v48] H k) H fun v49 H =>
     W.guarded v46 false (fun H k => W.un .not v49 H k) H fun v50 H =>
     W.pick v46 (.bool true) v50 H fun v51 H =>
     W.guarded v51 false (fun H k => k v19 H) H fun v52 H =>
     W.guarded v51 false (fun H k => k v9 H) H fun v53 H =>
     W.guarded v51 false (fun H k => W.call Tryz.prog (.func (.func 8) #[] #[]) #[v52, v53] H k) H fun v54 H =>
     W.guarded v51 false (fun H k => W.un .not v54 H k) H fun v55 H =>
     W.pick v51 (.bool true) v55 H fun v56 H =>
     W.guarded v56 false (fun H k => W.getN 2 v22 H k) H fun v57 H =>
     W.guarded v56 false (fun H k => W.getN 2 v12 H k) H fun v58 H =>
     W.guarded v56 false (fun H k => W.call Tryz.prog (.func (.func 9) #[] #[]) #[v57, v58] H k) H fun v59 H =>
     W.guarded v56 false (fun H k => W.un .not v59 H k) H fun v60 H =>
     W.pick v56 (.bool true) v60 H fun v61 H =>
     W.guarded v61 false (fun H k => k v21 H) H fun v62 H =>
     W.guarded v61 false (fun H k => k v11 H) H fun v63 H =>
     W.guarded v61 false (fun H k => W.bin .neq v62 v63 H k) H fun v64 H =>
     W.pick v61 (.bool true) v64 H fun v65 H =>
     W.cond v65 H
     (fun H => Q (.bool false) H)
     (fun H => W.call Tryz.prog (.func (.func 12) #[] #[]) #[v18, (.int .i64 1)] H fun v66 H =>
      W.call Tryz.prog (.func (.func 12) #[] #[]) #[v19, v66] H fun v67 H =>
      W.call Tryz.prog (.func (.func 13) #[] #[]) #[v18, (.int .i64 1)] H fun v68 H =>
      W.bin .lss v68 (.int .i64 0) H fun v69 H =>
      W.cond v69 H
      (fun H => Q (.bool false) H)
      (fun H => W.call Tryz.prog (.func (.func 13) #[] #[]) #[v19, v68] H fun v70 H =>
       W.bin .lss v70 (.int .i64 0) H fun v71 H =>
       W.cond v71 H
       (fun H => Q (.bool false) H)
       (fun H => W.bin .neq v70 v67 H fun v72 H =>
        W.cond v72 H
        (fun H => Q (.bool false) H)
        (fun H => W.getN 4 v1 H fun v73 H =>
         W.call Tryz.prog (.func (.func 6) #[] #[]) #[v73] H fun v74 H =>
         W.call Tryz.prog (.func (.func 7) #[] #[]) #[v74] H fun v75 H =>
         W.extract 0 v75 H fun v76 H =>
         W.extract 1 v75 H fun v77 H =>
         W.extract 2 v75 H fun v78 H =>
         W.extract 3 v75 H fun v79 H =>
         W.new [(.int .i64 0), (.int .i64 0)] 29 H fun v80 H =>
         W.putN 2 v80 v78 H fun _ H =>
         W.call Tryz.prog (.func (.func 8) #[] #[]) #[v76, v8] H fun v81 H =>
         W.un .not v81 H fun v82 H =>
         W.guarded v82 false (fun H k => k v77 H) H fun v83 H =>
         W.guarded v82 false (fun H k => k v9 H) H fun v84 H =>
         W.guarded v82 false (fun H k => W.call Tryz.prog (.func (.func 8) #[] #[]) #[v83, v84] H k) H fun v85 H =>
         W.guarded v82 false (fun H k => W.un .not v85 H k) H fun v86 H =>
         W.pick v82 (.bool true) v86 H fun v87 H =>
         W.guarded v87 false (fun H k => W.getN 2 v80 H k) H fun v88 H =>
         W.guarded v87 false (fun H k => W.getN 2 v12 H k) H fun v89 H =>
         W.guarded v87 false (fun H k => W.call Tryz.prog (.func (.func 9) #[] #[]) #[v88, v89] H k) H fun v90 H =>
         W.guarded v87 false (fun H k => W.un .not v90 H k) H fun v91 H =>
         W.pick v87 (.bool true) v91 H fun v92 H =>
         W.guarded v92 false (fun H k => k v79 H) H fun v93 H =>
         W.guarded v92 false (fun H k => k v11 H) H fun v94 H =>
         W.guarded v92 false (fun H k => W.bin .neq v93 v94 H k) H fun v95 H =>
         W.pick v92 (.bool true) v95 H fun v96 H =>
         W.cond v96 H
         (fun H => Q (.bool false) H)
         (fun H => W.call Tryz.prog (.func (.func 13) #[] #[]) #[v18, (.int .i64 1)] H fun v97 H =>
          W.bin .lss v97 (.int .i64 0) H fun v98 H =>
          W.cond v98 H
          (fun H => Q (.bool false) H)
          (fun H => W.call Tryz.prog (.func (.func 13) #[] #[]) #[v19, v97] H fun v99 H =>
           W.bin .lss v99 (.int .i64 0) H fun v100 H =>
           W.cond v100 H
           (fun H => Q (.bool false) H)
           (fun H => W.bin .neq v99 v67 H fun v101 H =>
            W.cond v101 H
            (fun H => Q (.bool false) H)
            (fun H => Q (.bool true) H)))))))))))
theorem f3.enter {Q : Post} {aP_0 : Value} {H : Heap} (h : f3.w Q aP_0 H) : Runs Tryz.prog 3 #[aP_0] H Q :=
  fn_enter (ann := []) (by kernel_rfl) Tryz.func3 rfl (by kernel_rfl) h (by kernel_rfl)

theorem law3 {H0 : Heap} {bs0 : List Nat} {cs0 : List Value} {x0 : _} (hr0 : RPrg.rel H0 bs0 cs0 x0) : Runs Tryz.prog 3 #[.agg cs0.toArray] H0 (fun v _ => v = .bool true) := by
  refine f3.enter ?_
  unfold f3.w
  have h := Loc.start H0
  have h := h.lent ⟨_, hr0⟩
  have lc0 := RPrg.len hr0
  have cc0 := RPrg.cell hr0
  have hsz0 := moRes_sz x0 
  have hsz1 :=  moRes_sz2 x0 
  have hsz2 :=  wPrg_le x0
  refine Wl.box h fun H b1 h => ?_
  refine Wl.getA h lc0 ?_
  refine Wl.szA sz4 h h.rd (by omega) (by omega) (fun _ H h => ?_) fun _ H h => Wi.lss (Wi.tru (by first | exact rfl | trivial))
  refine Wi.lssC (fun h => by omega) fun _ => ?_
  try simp only [gw]
  refine Wl.getA h lc0 ?_
  refine Wl.toA to6 h h.rd (by omega) fun H c2 l h => ?_
  have lc_c2 := (h.rd (cs := c2)).len
  have cc_c2 := (h.rd (cs := c2)).cell
  refine Wi.call (fn5 h.rd (by omega) fun H u3 u4 f => ?_)
  have h := h.add2 (c1 := [u3]) (c2 := [u4]) rfl f
  try simp only [gw]
  refine Wl.new h fun H b5 h => ?_
  refine Wl.putA h rfl rfl rfl fun H h => ?_
  refine Wl.getA h lc0 ?_
  refine Wl.toA to6 h h.rd (by omega) fun H c6 l h => ?_
  have lc_c6 := (h.rd (cs := c6)).len
  have cc_c6 := (h.rd (cs := c6)).cell
  refine Wl.new h fun H b7 h => ?_
  refine Wl.putA h rfl lc_c6 cc_c6 fun H h => ?_
  refine Wl.getA h lc_c6 ?_
  refine Wi.call (fn7 h.rd (by omega) fun H u8 u9 f => ?_)
  have h := h.add2 (c1 := [u8]) (c2 := [u9]) rfl f
  try simp only [gw]
  refine Wl.new h fun H b10 h => ?_
  refine Wl.putA h rfl rfl rfl fun H h => ?_
  refine Wl.eqC eq8 h h.rd h.rd fun H l h => ?_
  try simp only [gw]
  refine Wl.eqC eq8 h h.rd h.rd fun H l h => ?_
  try simp only [gw]
  refine Wl.getA h rfl ?_
  try simp only [gw]
  refine Wl.getA h rfl ?_
  try simp only [gw]
  refine Wi.call (fn9 fun H l => ?_)
  have h := h.to l
  try simp only [gw]
  refine Wi.neqC (fun h => absurd rfl h) fun _ => ?_
  try simp only [gw]
  refine Wl.getA h lc_c6 ?_
  refine Wl.getA h lc0 ?_
  refine Wl.toA to6 h h.rd (by omega) fun H c11 l h => ?_
  refine ⟨l, ?_⟩
  have lc_c11 := (h.rd (cs := c11)).len
  have cc_c11 := (h.rd (cs := c11)).cell
  refine Wl.eqA eq10 h h.rd h.rd fun H l h => ?_
  refine ⟨l, ?_⟩
  try simp only [gw]
  refine Wl.getA h lc_c6 ?_
  refine Wl.markA mark11 h (by omega) (by omega) fun H h => ?_
  refine Wi.lssC (fun h => by omega) fun _ => ?_
  try simp only [gw]
  refine Wl.eqC eq8 h h.rd h.rd fun H l h => ?_
  try simp only [gw]
  refine Wl.eqC eq8 h h.rd h.rd fun H l h => ?_
  try simp only [gw]
  refine Wl.getA h rfl ?_
  try simp only [gw]
  refine Wl.getA h rfl ?_
  try simp only [gw]
  refine Wi.call (fn9 fun H l => ?_)
  have h := h.to l
  try simp only [gw]
  refine Wi.neqC (fun h => absurd rfl h) fun _ => ?_
  try simp only [gw]
  refine Wl.markC mark12 h (by omega) (by omega) fun H h => ?_
  refine Wl.markC mark12 h (by omega) (by omega) fun H h => ?_
  refine Wl.heldC held13 h h.rd (by omega) (by omega) fun H h => ?_
  refine Wi.lssC (fun h => by omega) fun _ => ?_
  try simp only [gw]
  refine Wl.heldC held13 h h.rd (by omega) (by omega) fun H h => ?_
  refine Wi.lssC (fun h => by omega) fun _ => ?_
  try simp only [gw]
  refine Wi.neqC (fun h => absurd rfl h) fun _ => ?_
  try simp only [gw]
  refine Wl.getA h lc0 ?_
  refine Wl.toA to6 h h.rd (by omega) fun H c12 l h => ?_
  have lc_c12 := (h.rd (cs := c12)).len
  have cc_c12 := (h.rd (cs := c12)).cell
  refine Wi.call (fn7 h.rd (by omega) fun H u13 u14 f => ?_)
  have h := h.add2 (c1 := [u13]) (c2 := [u14]) rfl f
  try simp only [gw]
  refine Wl.new h fun H b15 h => ?_
  refine Wl.putA h rfl rfl rfl fun H h => ?_
  refine Wl.eqC eq8 h h.rd h.rd fun H l h => ?_
  try simp only [gw]
  refine Wl.eqC eq8 h h.rd h.rd fun H l h => ?_
  try simp only [gw]
  refine Wl.getA h rfl ?_
  try simp only [gw]
  refine Wl.getA h rfl ?_
  try simp only [gw]
  refine Wi.call (fn9 fun H l => ?_)
  have h := h.to l
  try simp only [gw]
  refine Wi.neqC (fun h => absurd rfl h) fun _ => ?_
  try simp only [gw]
  refine Wl.heldC held13 h h.rd (by omega) (by omega) fun H h => ?_
  refine Wi.lssC (fun h => by omega) fun _ => ?_
  try simp only [gw]
  refine Wl.heldC held13 h h.rd (by omega) (by omega) fun H h => ?_
  refine Wi.lssC (fun h => by omega) fun _ => ?_
  try simp only [gw]
  refine Wi.neqC (fun h => absurd rfl h) fun _ => ?_
  try simp only [gw]
  all_goals first | rfl | trivial


end Go.Proofs.YtmhbbkidedjefaaGreat
