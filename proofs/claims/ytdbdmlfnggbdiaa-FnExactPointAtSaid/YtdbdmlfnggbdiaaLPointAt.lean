/- The law FnExactPointAt answers true on any abstract heap that holds its arguments. No condition. -/
import Derived.Test.YtdbdmlfnggbdiaaPA1
import Derived.Test.YtdbdmlfnggbdiaaA5
import Derived.Test.YtdbdmlfnggbdiaaA6
import Derived.Test.YtdbdmlfnggbdiaaW2
namespace Go.Proofs.Ytdbdmlfnggbdiaa
open Go.Ab

/- loop.example/g01343/laws.FnExactPointAt -/
def f8.w (Q : Post) (aP_0 : Value) (aS_1 : Value) (aD_2 : Value) (aT_3 : Value) (H : Heap) : Prop :=
  W.box aP_0 25 H fun v1 H =>
  W.box aT_3 57 H fun v2 H =>
  W.len aD_2 H fun v3 H =>
  W.bin .gtr v3 (.int .i64 1048576) H fun v4 H =>
  W.cond v4 H
  (fun H => Q (.bool true) H)
  (fun H => W.getN 2 v1 H fun v5 H =>
   W.call Try.prog (.func (.func 11) #[] #[]) #[v5, (.int .i64 1048576)] H fun v6 H =>
   W.bin .lss v6 (.int .i64 0) H fun v7 H =>
   W.cond v7 H
   (fun H => Q (.bool true) H)
   (fun H => W.getN 2 v1 H fun v8 H =>
    W.callQ Try.prog (.func (.func 13) #[] #[]) #[v8] H fun v9 H =>
    W.callQ Try.prog (.func (.func 35) #[] #[]) #[aD_2] H fun v10 H =>
    W.getN 2 v2 H fun v11 H =>
    W.callQ Try.prog (.func (.func 36) #[] #[]) #[v11] H fun v12 H =>
    W.callQ Try.prog (.func (.func 34) #[] #[]) #[v9, aS_1, v10, v12] H fun v13 H =>
    W.extract 0 v13 H fun v14 H =>
    W.extract 1 v13 H fun v15 H =>
    W.getN 2 v1 H fun v16 H =>
    W.call Try.prog (.func (.func 13) #[] #[]) #[v16] H fun v17 H =>
    W.new [(.slice none 0 0), (.slice none 0 0)] 29 H fun v18 H =>
    W.putN 2 v18 v17 H fun _ H =>
    W.call Try.prog (.func (.func 35) #[] #[]) #[aD_2] H fun v19 H =>
    W.getN 2 v18 H fun v20 H =>
    W.getN 2 v2 H fun v21 H =>
    W.callQ Try.prog (.func (.func 36) #[] #[]) #[v21] H fun v22 H =>
    W.callQ Try.prog (.func (.func 37) #[] #[]) #[v20, aS_1, v19, v22] H fun v23 H =>
    W.extract 0 v23 H fun v24 H =>
    W.extract 1 v23 H fun v25 H =>
    W.call Try.prog (.func (.func 23) #[] #[]) #[v24, v14] H fun v26 H =>
    W.un .not v26 H fun v27 H =>
    W.guarded v27 false (fun H k => k v25 H) H fun v28 H =>
    W.guarded v27 false (fun H k => k v15 H) H fun v29 H =>
    W.guarded v27 false (fun H k => W.bin .neq v28 v29 H k) H fun v30 H =>
    W.pick v27 (.bool true) v30 H fun v31 H =>
    W.cond v31 H
    (fun H => Q (.bool false) H)
    (fun H => W.getN 2 v18 H fun v32 H =>
     W.getN 2 v1 H fun v33 H =>
     W.callQ Try.prog (.func (.func 13) #[] #[]) #[v33] H fun v34 H =>
     W.callQ Try.prog (.func (.func 15) #[] #[]) #[v32, v34] H fun v35 H =>
     W.un .not v35 H fun v36 H =>
     W.cond v36 H
     (fun H => Q (.bool false) H)
     (fun H => W.call Try.prog (.func (.func 35) #[] #[]) #[aD_2] H fun v37 H =>
      W.call Try.prog (.func (.func 38) #[] #[]) #[v19, v37] H fun v38 H =>
      W.un .not v38 H fun v39 H =>
      W.cond v39 H
      (fun H => Q (.bool false) H)
      (fun H => W.getN 2 v18 H fun v40 H =>
       W.call Try.prog (.func (.func 39) #[] #[]) #[v40, (.int .i64 1)] H fun v41 H =>
       W.call Try.prog (.func (.func 40) #[] #[]) #[v19, v41] H fun v42 H =>
       W.bin .lss v42 (.int .i64 0) H fun v43 H =>
       W.guarded v43 false (fun H k => k v24 H) H fun v44 H =>
       W.guarded v43 false (fun H k => k v14 H) H fun v45 H =>
       W.guarded v43 false (fun H k => W.call Try.prog (.func (.func 23) #[] #[]) #[v44, v45] H k) H fun v46 H =>
       W.guarded v43 false (fun H k => W.un .not v46 H k) H fun v47 H =>
       W.pick v43 (.bool true) v47 H fun v48 H =>
       W.guarded v48 false (fun H k => k v25 H) H fun v49 H =>
       W.guarded v48 false (fun H k => k v15 H) H fun v50 H =>
       W.guarded v48 false (fun H k => W.bin .neq v49 v50 H k) H fun v51 H =>
       W.pick v48 (.bool true) v51 H fun v52 H =>
       W.cond v52 H
       (fun H => Q (.bool false) H)
       (fun H => W.call Try.prog (.func (.func 32) #[] #[]) #[v24, (.int .i64 1)] H fun v53 H =>
        W.call Try.prog (.func (.func 33) #[] #[]) #[v24, (.int .i64 1)] H fun v54 H =>
        W.bin .lss v54 (.int .i64 0) H fun v55 H =>
        W.cond v55 H
        (fun H => Q (.bool false) H)
        (fun H => W.bin .neq v54 v53 H fun v56 H =>
         W.cond v56 H
         (fun H => Q (.bool false) H)
         (fun H => W.getN 2 v1 H fun v57 H =>
          W.callQ Try.prog (.func (.func 13) #[] #[]) #[v57] H fun v58 H =>
          W.callQ Try.prog (.func (.func 35) #[] #[]) #[aD_2] H fun v59 H =>
          W.getN 2 v2 H fun v60 H =>
          W.callQ Try.prog (.func (.func 36) #[] #[]) #[v60] H fun v61 H =>
          W.callQ Try.prog (.func (.func 37) #[] #[]) #[v58, aS_1, v59, v61] H fun v62 H =>
          W.extract 0 v62 H fun v63 H =>
          W.extract 1 v62 H fun v64 H =>
          W.call Try.prog (.func (.func 23) #[] #[]) #[v63, v14] H fun v65 H =>
          W.un .not v65 H fun v66 H =>
          W.guarded v66 false (fun H k => k v64 H) H fun v67 H =>
          W.guarded v66 false (fun H k => k v15 H) H fun v68 H =>
          W.guarded v66 false (fun H k => W.bin .neq v67 v68 H k) H fun v69 H =>
          W.pick v66 (.bool true) v69 H fun v70 H =>
          W.cond v70 H
          (fun H => Q (.bool false) H)
          (fun H => W.call Try.prog (.func (.func 33) #[] #[]) #[v24, (.int .i64 1)] H fun v71 H =>
           W.bin .lss v71 (.int .i64 0) H fun v72 H =>
           W.cond v72 H
           (fun H => Q (.bool false) H)
           (fun H => W.bin .neq v71 v53 H fun v73 H =>
            W.cond v73 H
            (fun H => Q (.bool false) H)
            (fun H => Q (.bool true) H)))))))))))
theorem f8.enter {Q : Post} {aP_0 : Value} {aS_1 : Value} {aD_2 : Value} {aT_3 : Value} {H : Heap} (h : f8.w Q aP_0 aS_1 aD_2 aT_3 H) : Runs Try.prog 8 #[aP_0, aS_1, aD_2, aT_3] H Q :=
  fn_enter (ann := []) (by kernel_rfl) Try.func8 rfl (by kernel_rfl) h (by kernel_rfl)

theorem law8 {H0 : Heap} {bs0 : List Nat} {cs0 : List Value} {x0 : _} (hr0 : RProblem.rel H0 bs0 cs0 x0) {x1 : Int} (hx1 : I64 x1) {bs2 : List Nat} {v2 : Value} {x2 : _} (hr2 : RS.rel H0 bs2 [v2] x2) {bs3 : List Nat} {cs3 : List Value} {x3 : Frac} (hr3 : RFrac.rel H0 bs3 cs3 x3) : Runs Try.prog 8 #[.agg cs0.toArray, .int .i64 x1, v2, .agg cs3.toArray] H0 (fun v _ => v = .bool true) := by
  refine f8.enter ?_
  unfold f8.w
  have h := Loc.start H0
  have h := h.lent ⟨_, hr0⟩
  have lc0 := RProblem.len hr0
  have cc0 := RProblem.cell hr0
  have h := h.lent ⟨_, hr2⟩
  have h := h.lent ⟨_, hr3⟩
  have lc3 := RFrac.len hr3
  have cc3 := RFrac.cell hr3
  have hsz0 := paRes_sz x0 x1 x2 x3 
  have hsz1 :=  wProblem_le x0 
  have hsz2 :=  Nat.le_of_eq (szS_len x2)
  refine Wl.box h fun H b1 h => ?_
  refine Wl.box h fun H b2 h => ?_
  refine Wl.len h ?_
  refine Wi.gtrC (fun _ => Wi.tru (by first | exact rfl | trivial)) fun _ => Wi.fls ?_
  refine Wl.getA h lc0 ?_
  refine Wl.szA sz11 h h.rd (by omega) (by omega) (fun _ H h => ?_) fun _ H h => Wi.lss (Wi.tru (by first | exact rfl | trivial))
  refine Wi.lssC (fun h => by omega) fun _ => ?_
  try simp only [gw]
  refine Wl.getA h lc0 ?_
  refine Wl.toA to13 h h.rd (by omega) fun H c3 l h => ?_
  refine ⟨l, ?_⟩
  have lc_c3 := (h.rd (cs := c3)).len
  have cc_c3 := (h.rd (cs := c3)).cell
  refine Wl.toC to35 h h.rd (by omega) fun H u4 l h => ?_
  refine ⟨l, ?_⟩
  refine Wl.getA h lc3 ?_
  refine Wl.toA to36 h h.rd (by omega) fun H c5 l h => ?_
  refine ⟨l, ?_⟩
  have lc_c5 := (h.rd (cs := c5)).len
  have cc_c5 := (h.rd (cs := c5)).cell
  refine Wi.call (fn34 h.rd hx1 h.rd h.rd (by omega) (by omega) fun H u6 f => ?_)
  refine ⟨f.le, ?_⟩
  have h := h.add f
  try simp only [gw]
  refine Wl.getA h lc0 ?_
  refine Wl.toA to13 h h.rd (by omega) fun H c7 l h => ?_
  have lc_c7 := (h.rd (cs := c7)).len
  have cc_c7 := (h.rd (cs := c7)).cell
  refine Wl.new h fun H b8 h => ?_
  refine Wl.putA h rfl lc_c7 cc_c7 fun H h => ?_
  refine Wl.toC to35 h h.rd (by omega) fun H u9 l h => ?_
  refine Wl.getA h lc_c7 ?_
  refine Wl.getA h lc3 ?_
  refine Wl.toA to36 h h.rd (by omega) fun H c10 l h => ?_
  refine ⟨l, ?_⟩
  have lc_c10 := (h.rd (cs := c10)).len
  have cc_c10 := (h.rd (cs := c10)).cell
  refine Wi.call (fn37 h.rd hx1 h.rd h.rd (by omega) (by omega) fun H u11 f => ?_)
  refine ⟨f.le, ?_⟩
  have h := h.add f
  try simp only [gw]
  refine Wl.eqC eq23 h h.rd h.rd fun H l h => ?_
  try simp only [gw]
  refine Wi.neqC (fun h => absurd rfl h) fun _ => ?_
  try simp only [gw]
  refine Wl.getA h lc_c7 ?_
  refine Wl.getA h lc0 ?_
  refine Wl.toA to13 h h.rd (by omega) fun H c12 l h => ?_
  refine ⟨l, ?_⟩
  have lc_c12 := (h.rd (cs := c12)).len
  have cc_c12 := (h.rd (cs := c12)).cell
  refine Wl.eqA eq15 h h.rd h.rd fun H l h => ?_
  refine ⟨l, ?_⟩
  try simp only [gw]
  refine Wl.toC to35 h h.rd (by omega) fun H u13 l h => ?_
  refine Wl.eqC eq38 h h.rd h.rd fun H l h => ?_
  try simp only [gw]
  refine Wl.getA h lc_c7 ?_
  refine Wl.markA mark39 h (by omega) (by omega) fun H h => ?_
  refine Wl.markC mark40 h (by omega) (by omega) fun H h => ?_
  refine Wi.lssC (fun h => by omega) fun _ => ?_
  try simp only [gw]
  refine Wl.eqC eq23 h h.rd h.rd fun H l h => ?_
  try simp only [gw]
  refine Wi.neqC (fun h => absurd rfl h) fun _ => ?_
  try simp only [gw]
  refine Wl.markC mark32 h (by omega) (by omega) fun H h => ?_
  refine Wl.heldC held33 h h.rd (by omega) (by omega) fun H h => ?_
  refine Wi.lssC (fun h => by omega) fun _ => ?_
  try simp only [gw]
  refine Wi.neqC (fun h => absurd rfl h) fun _ => ?_
  try simp only [gw]
  refine Wl.getA h lc0 ?_
  refine Wl.toA to13 h h.rd (by omega) fun H c14 l h => ?_
  refine ⟨l, ?_⟩
  have lc_c14 := (h.rd (cs := c14)).len
  have cc_c14 := (h.rd (cs := c14)).cell
  refine Wl.toC to35 h h.rd (by omega) fun H u15 l h => ?_
  refine ⟨l, ?_⟩
  refine Wl.getA h lc3 ?_
  refine Wl.toA to36 h h.rd (by omega) fun H c16 l h => ?_
  refine ⟨l, ?_⟩
  have lc_c16 := (h.rd (cs := c16)).len
  have cc_c16 := (h.rd (cs := c16)).cell
  refine Wi.call (fn37 h.rd hx1 h.rd h.rd (by omega) (by omega) fun H u17 f => ?_)
  refine ⟨f.le, ?_⟩
  have h := h.add f
  try simp only [gw]
  refine Wl.eqC eq23 h h.rd h.rd fun H l h => ?_
  try simp only [gw]
  refine Wi.neqC (fun h => absurd rfl h) fun _ => ?_
  try simp only [gw]
  refine Wl.heldC held33 h h.rd (by omega) (by omega) fun H h => ?_
  refine Wi.lssC (fun h => by omega) fun _ => ?_
  try simp only [gw]
  refine Wi.neqC (fun h => absurd rfl h) fun _ => ?_
  try simp only [gw]
  all_goals first | rfl | trivial


end Go.Proofs.Ytdbdmlfnggbdiaa
