/- The law FnExactSlopesAt answers true on any abstract heap that holds its arguments. No condition. -/
import Derived.Test.YtdbdmlfnggbdiaaU1
import Derived.Test.YtdbdmlfnggbdiaaA5
import Derived.Test.YtdbdmlfnggbdiaaA6
import Derived.Test.YtdbdmlfnggbdiaaW1
namespace Go.Proofs.Ytdbdmlfnggbdiaa
open Go.Ab

/- loop.example/g01343/laws.FnExactSlopesAt -/
def f7.w (Q : Post) (aP_0 : Value) (aX_1 : Value) (H : Heap) : Prop :=
  W.box aP_0 34 H fun v1 H =>
  W.getN 4 v1 H fun v2 H =>
  W.call Try.prog (.func (.func 16) #[] #[]) #[v2, (.int .i64 1048576)] H fun v3 H =>
  W.bin .lss v3 (.int .i64 0) H fun v4 H =>
  W.cond v4 H
  (fun H => Q (.bool true) H)
  (fun H => W.call Try.prog (.func (.func 17) #[] #[]) #[aX_1, v3] H fun v5 H =>
   W.bin .lss v5 (.int .i64 0) H fun v6 H =>
   W.cond v6 H
   (fun H => Q (.bool true) H)
   (fun H => W.getN 4 v1 H fun v7 H =>
    W.call Try.prog (.func (.func 19) #[] #[]) #[v7] H fun v8 H =>
    W.call Try.prog (.func (.func 20) #[] #[]) #[aX_1] H fun v9 H =>
    W.call Try.prog (.func (.func 29) #[] #[]) #[v8, v9] H fun v10 H =>
    W.extract 0 v10 H fun v11 H =>
    W.extract 1 v10 H fun v12 H =>
    W.getN 4 v1 H fun v13 H =>
    W.call Try.prog (.func (.func 19) #[] #[]) #[v13] H fun v14 H =>
    W.new [(.slice none 0 0), (.slice none 0 0), (.slice none 0 0), (.slice none 0 0)] 39 H fun v15 H =>
    W.putN 4 v15 v14 H fun _ H =>
    W.call Try.prog (.func (.func 20) #[] #[]) #[aX_1] H fun v16 H =>
    W.getN 4 v15 H fun v17 H =>
    W.call Try.prog (.func (.func 30) #[] #[]) #[v17, v16] H fun v18 H =>
    W.extract 0 v18 H fun v19 H =>
    W.extract 1 v18 H fun v20 H =>
    W.call Try.prog (.func (.func 23) #[] #[]) #[v19, v11] H fun v21 H =>
    W.un .not v21 H fun v22 H =>
    W.guarded v22 false (fun H k => k v20 H) H fun v23 H =>
    W.guarded v22 false (fun H k => k v12 H) H fun v24 H =>
    W.guarded v22 false (fun H k => W.bin .neq v23 v24 H k) H fun v25 H =>
    W.pick v22 (.bool true) v25 H fun v26 H =>
    W.cond v26 H
    (fun H => Q (.bool false) H)
    (fun H => W.getN 4 v15 H fun v27 H =>
     W.getN 4 v1 H fun v28 H =>
     W.callQ Try.prog (.func (.func 19) #[] #[]) #[v28] H fun v29 H =>
     W.callQ Try.prog (.func (.func 22) #[] #[]) #[v27, v29] H fun v30 H =>
     W.un .not v30 H fun v31 H =>
     W.cond v31 H
     (fun H => Q (.bool false) H)
     (fun H => W.call Try.prog (.func (.func 20) #[] #[]) #[aX_1] H fun v32 H =>
      W.call Try.prog (.func (.func 23) #[] #[]) #[v16, v32] H fun v33 H =>
      W.un .not v33 H fun v34 H =>
      W.cond v34 H
      (fun H => Q (.bool false) H)
      (fun H => W.getN 4 v15 H fun v35 H =>
       W.call Try.prog (.func (.func 31) #[] #[]) #[v35, (.int .i64 1)] H fun v36 H =>
       W.call Try.prog (.func (.func 32) #[] #[]) #[v16, v36] H fun v37 H =>
       W.bin .lss v37 (.int .i64 0) H fun v38 H =>
       W.guarded v38 false (fun H k => k v19 H) H fun v39 H =>
       W.guarded v38 false (fun H k => k v11 H) H fun v40 H =>
       W.guarded v38 false (fun H k => W.call Try.prog (.func (.func 23) #[] #[]) #[v39, v40] H k) H fun v41 H =>
       W.guarded v38 false (fun H k => W.un .not v41 H k) H fun v42 H =>
       W.pick v38 (.bool true) v42 H fun v43 H =>
       W.guarded v43 false (fun H k => k v20 H) H fun v44 H =>
       W.guarded v43 false (fun H k => k v12 H) H fun v45 H =>
       W.guarded v43 false (fun H k => W.bin .neq v44 v45 H k) H fun v46 H =>
       W.pick v43 (.bool true) v46 H fun v47 H =>
       W.cond v47 H
       (fun H => Q (.bool false) H)
       (fun H => W.call Try.prog (.func (.func 32) #[] #[]) #[v19, (.int .i64 1)] H fun v48 H =>
        W.call Try.prog (.func (.func 33) #[] #[]) #[v19, (.int .i64 1)] H fun v49 H =>
        W.bin .lss v49 (.int .i64 0) H fun v50 H =>
        W.cond v50 H
        (fun H => Q (.bool false) H)
        (fun H => W.bin .neq v49 v48 H fun v51 H =>
         W.cond v51 H
         (fun H => Q (.bool false) H)
         (fun H => W.getN 4 v1 H fun v52 H =>
          W.call Try.prog (.func (.func 19) #[] #[]) #[v52] H fun v53 H =>
          W.call Try.prog (.func (.func 20) #[] #[]) #[aX_1] H fun v54 H =>
          W.call Try.prog (.func (.func 30) #[] #[]) #[v53, v54] H fun v55 H =>
          W.extract 0 v55 H fun v56 H =>
          W.extract 1 v55 H fun v57 H =>
          W.call Try.prog (.func (.func 23) #[] #[]) #[v56, v11] H fun v58 H =>
          W.un .not v58 H fun v59 H =>
          W.guarded v59 false (fun H k => k v57 H) H fun v60 H =>
          W.guarded v59 false (fun H k => k v12 H) H fun v61 H =>
          W.guarded v59 false (fun H k => W.bin .neq v60 v61 H k) H fun v62 H =>
          W.pick v59 (.bool true) v62 H fun v63 H =>
          W.cond v63 H
          (fun H => Q (.bool false) H)
          (fun H => W.call Try.prog (.func (.func 33) #[] #[]) #[v19, (.int .i64 1)] H fun v64 H =>
           W.bin .lss v64 (.int .i64 0) H fun v65 H =>
           W.cond v65 H
           (fun H => Q (.bool false) H)
           (fun H => W.bin .neq v64 v48 H fun v66 H =>
            W.cond v66 H
            (fun H => Q (.bool false) H)
            (fun H => Q (.bool true) H)))))))))))
theorem f7.enter {Q : Post} {aP_0 : Value} {aX_1 : Value} {H : Heap} (h : f7.w Q aP_0 aX_1 H) : Runs Try.prog 7 #[aP_0, aX_1] H Q :=
  fn_enter (ann := []) (by kernel_rfl) Try.func7 rfl (by kernel_rfl) h (by kernel_rfl)

theorem law7 {H0 : Heap} {bs0 : List Nat} {cs0 : List Value} {x0 : _} (hr0 : RPrg.rel H0 bs0 cs0 x0) {bs1 : List Nat} {v1 : Value} {x1 : _} (hr1 : RFS.rel H0 bs1 [v1] x1) : Runs Try.prog 7 #[.agg cs0.toArray, v1] H0 (fun v _ => v = .bool true) := by
  refine f7.enter ?_
  unfold f7.w
  have h := Loc.start H0
  have h := h.lent ⟨_, hr0⟩
  have lc0 := RPrg.len hr0
  have cc0 := RPrg.cell hr0
  have h := h.lent ⟨_, hr1⟩
  have hsz0 := saRes_sz x0 x1 
  have hsz1 :=  wPrg_le x0 
  have hsz2 :=  szFS_len x1
  refine Wl.box h fun H b1 h => ?_
  refine Wl.getA h lc0 ?_
  refine Wl.szA sz16 h h.rd (by omega) (by omega) (fun _ H h => ?_) fun _ H h => Wi.lss (Wi.tru (by first | exact rfl | trivial))
  refine Wi.lssC (fun h => by omega) fun _ => ?_
  try simp only [gw]
  refine Wl.szC sz17 h h.rd (by omega) (by omega) (fun _ H h => ?_) fun _ H h => Wi.lss (Wi.tru (by first | exact rfl | trivial))
  refine Wi.lssC (fun h => by omega) fun _ => ?_
  try simp only [gw]
  refine Wl.getA h lc0 ?_
  refine Wl.toA to19 h h.rd (by omega) fun H c2 l h => ?_
  have lc_c2 := (h.rd (cs := c2)).len
  have cc_c2 := (h.rd (cs := c2)).cell
  refine Wl.toC to20 h h.rd (by omega) fun H u3 l h => ?_
  refine Wi.call (fn29 h.rd h.rd (by omega) (by omega) fun H u4 f => ?_)
  have h := h.add f
  try simp only [gw]
  refine Wl.getA h lc0 ?_
  refine Wl.toA to19 h h.rd (by omega) fun H c5 l h => ?_
  have lc_c5 := (h.rd (cs := c5)).len
  have cc_c5 := (h.rd (cs := c5)).cell
  refine Wl.new h fun H b6 h => ?_
  refine Wl.putA h rfl lc_c5 cc_c5 fun H h => ?_
  refine Wl.toC to20 h h.rd (by omega) fun H u7 l h => ?_
  refine Wl.getA h lc_c5 ?_
  refine Wi.call (fn30 h.rd h.rd (by omega) (by omega) fun H u8 f => ?_)
  have h := h.add f
  try simp only [gw]
  refine Wl.eqC eq23 h h.rd h.rd fun H l h => ?_
  try simp only [gw]
  refine Wi.neqC (fun h => absurd rfl h) fun _ => ?_
  try simp only [gw]
  refine Wl.getA h lc_c5 ?_
  refine Wl.getA h lc0 ?_
  refine Wl.toA to19 h h.rd (by omega) fun H c9 l h => ?_
  refine ⟨l, ?_⟩
  have lc_c9 := (h.rd (cs := c9)).len
  have cc_c9 := (h.rd (cs := c9)).cell
  refine Wl.eqA eq22 h h.rd h.rd fun H l h => ?_
  refine ⟨l, ?_⟩
  try simp only [gw]
  refine Wl.toC to20 h h.rd (by omega) fun H u10 l h => ?_
  refine Wl.eqC eq23 h h.rd h.rd fun H l h => ?_
  try simp only [gw]
  refine Wl.getA h lc_c5 ?_
  refine Wl.markA mark31 h (by omega) (by omega) fun H h => ?_
  refine Wl.markC mark32 h (by omega) (by omega) fun H h => ?_
  refine Wi.lssC (fun h => by omega) fun _ => ?_
  try simp only [gw]
  refine Wl.eqC eq23 h h.rd h.rd fun H l h => ?_
  try simp only [gw]
  refine Wi.neqC (fun h => absurd rfl h) fun _ => ?_
  try simp only [gw]
  refine Wl.markC mark32 h (by omega) (by omega) fun H h => ?_
  refine Wl.heldC held33 h h.rd (by omega) (by omega) fun H h => ?_
  refine Wi.lssC (fun h => by omega) fun _ => ?_
  try simp only [gw]
  refine Wi.neqC (fun h => absurd rfl h) fun _ => ?_
  try simp only [gw]
  refine Wl.getA h lc0 ?_
  refine Wl.toA to19 h h.rd (by omega) fun H c11 l h => ?_
  have lc_c11 := (h.rd (cs := c11)).len
  have cc_c11 := (h.rd (cs := c11)).cell
  refine Wl.toC to20 h h.rd (by omega) fun H u12 l h => ?_
  refine Wi.call (fn30 h.rd h.rd (by omega) (by omega) fun H u13 f => ?_)
  have h := h.add f
  try simp only [gw]
  refine Wl.eqC eq23 h h.rd h.rd fun H l h => ?_
  try simp only [gw]
  refine Wi.neqC (fun h => absurd rfl h) fun _ => ?_
  try simp only [gw]
  refine Wl.heldC held33 h h.rd (by omega) (by omega) fun H h => ?_
  refine Wi.lssC (fun h => by omega) fun _ => ?_
  try simp only [gw]
  refine Wi.neqC (fun h => absurd rfl h) fun _ => ?_
  try simp only [gw]
  all_goals first | rfl | trivial


end Go.Proofs.Ytdbdmlfnggbdiaa
