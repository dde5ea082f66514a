/- The law FnExactCoverNumbers answers true on any abstract heap that holds its arguments. No condition. -/
import Derived.Test.YtmhbbkidedjefaaCN1
import Derived.Test.YtmhbbkidedjefaaCN2
import Derived.Test.YtmhbbkidedjefaaW2
namespace Go.Proofs.Ytmhbbkidedjefaa
open Go.Ab

/- loop.example/g01343/laws.FnExactCoverNumbers -/
def f5.w (Q : Post) (aP_0 : Value) (aK_1 : Value) (H : Heap) : Prop :=
  W.box aP_0 25 H fun v1 H =>
  W.getN 2 v1 H fun v2 H =>
  W.call Try.prog (.func (.func 10) #[] #[]) #[v2, (.int .i64 1048576)] H fun v3 H =>
  W.bin .lss v3 (.int .i64 0) H fun v4 H =>
  W.cond v4 H
  (fun H => Q (.bool true) H)
  (fun H => W.getN 2 v1 H fun v5 H =>
   W.call Try.prog (.func (.func 12) #[] #[]) #[v5] H fun v6 H =>
   W.call Try.prog (.func (.func 21) #[] #[]) #[v6, aK_1] H fun v7 H =>
   W.extract 0 v7 H fun v8 H =>
   W.extract 1 v7 H fun v9 H =>
   W.getN 2 v1 H fun v10 H =>
   W.call Try.prog (.func (.func 12) #[] #[]) #[v10] H fun v11 H =>
   W.new [(.slice none 0 0), (.slice none 0 0)] 29 H fun v12 H =>
   W.putN 2 v12 v11 H fun _ H =>
   W.getN 2 v12 H fun v13 H =>
   W.call Try.prog (.func (.func 22) #[] #[]) #[v13, aK_1] H fun v14 H =>
   W.extract 0 v14 H fun v15 H =>
   W.extract 1 v14 H fun v16 H =>
   W.call Try.prog (.func (.func 14) #[] #[]) #[v15, v8] H fun v17 H =>
   W.un .not v17 H fun v18 H =>
   W.guarded v18 false (fun H k => k v16 H) H fun v19 H =>
   W.guarded v18 false (fun H k => k v9 H) H fun v20 H =>
   W.guarded v18 false (fun H k => W.bin .neq v19 v20 H k) H fun v21 H =>
   W.pick v18 (.bool true) v21 H fun v22 H =>
   W.cond v22 H
   (fun H => Q (.bool false) H)
   (fun H => W.getN 2 v12 H fun v23 H =>
    W.getN 2 v1 H fun v24 H =>
    W.callQ Try.prog (.func (.func 12) #[] #[]) #[v24] H fun v25 H =>
    W.callQ Try.prog (.func (.func 15) #[] #[]) #[v23, v25] H fun v26 H =>
    W.un .not v26 H fun v27 H =>
    W.cond v27 H
    (fun H => Q (.bool false) H)
    (fun H => W.getN 2 v12 H fun v28 H =>
     W.call Try.prog (.func (.func 16) #[] #[]) #[v28, (.int .i64 1)] H fun v29 H =>
     W.bin .lss v29 (.int .i64 0) H fun v30 H =>
     W.guarded v30 false (fun H k => k v15 H) H fun v31 H =>
     W.guarded v30 false (fun H k => k v8 H) H fun v32 H =>
     W.guarded v30 false (fun H k => W.call Try.prog (.func (.func 14) #[] #[]) #[v31, v32] H k) H fun v33 H =>
     W.guarded v30 false (fun H k => W.un .not v33 H k) H fun v34 H =>
     W.pick v30 (.bool true) v34 H fun v35 H =>
     W.guarded v35 false (fun H k => k v16 H) H fun v36 H =>
     W.guarded v35 false (fun H k => k v9 H) H fun v37 H =>
     W.guarded v35 false (fun H k => W.bin .neq v36 v37 H k) H fun v38 H =>
     W.pick v35 (.bool true) v38 H fun v39 H =>
     W.cond v39 H
     (fun H => Q (.bool false) H)
     (fun H => W.call Try.prog (.func (.func 17) #[] #[]) #[v15, (.int .i64 1)] H fun v40 H =>
      W.call Try.prog (.func (.func 18) #[] #[]) #[v15, (.int .i64 1)] H fun v41 H =>
      W.bin .lss v41 (.int .i64 0) H fun v42 H =>
      W.cond v42 H
      (fun H => Q (.bool false) H)
      (fun H => W.bin .neq v41 v40 H fun v43 H =>
       W.cond v43 H
       (fun H => Q (.bool false) H)
       (fun H => W.getN 2 v1 H fun v44 H =>
        W.call Try.prog (.func (.func 12) #[] #[]) #[v44] H fun v45 H =>
        W.call Try.prog (.func (.func 22) #[] #[]) #[v45, aK_1] H fun v46 H =>
        W.extract 0 v46 H fun v47 H =>
        W.extract 1 v46 H fun v48 H =>
        W.call Try.prog (.func (.func 14) #[] #[]) #[v47, v8] H fun v49 H =>
        W.un .not v49 H fun v50 H =>
        W.guarded v50 false (fun H k => k v48 H) H fun v51 H =>
        W.guarded v50 false (fun H k => k v9 H) H fun v52 H =>
        W.guarded v50 false (fun H k => W.bin .neq v51 v52 H k) H fun v53 H =>
        W.pick v50 (.bool true) v53 H fun v54 H =>
        W.cond v54 H
        (fun H => Q (.bool false) H)
        (fun H => W.call Try.prog (.func (.func 18) #[] #[]) #[v15, (.int .i64 1)] H fun v55 H =>
         W.bin .lss v55 (.int .i64 0) H fun v56 H =>
         W.cond v56 H
         (fun H => Q (.bool false) H)
         (fun H => W.bin .neq v55 v40 H fun v57 H =>
          W.cond v57 H
          (fun H => Q (.bool false) H)
          (fun H => Q (.bool true) H)))))))))
theorem f5.enter {Q : Post} {aP_0 : Value} {aK_1 : Value} {H : Heap} (h : f5.w Q aP_0 aK_1 H) : Runs Try.prog 5 #[aP_0, aK_1] H Q :=
  fn_enter (ann := []) (by kernel_rfl) Try.func5 rfl (by kernel_rfl) h (by kernel_rfl)

theorem law5 {H0 : Heap} {bs0 : List Nat} {cs0 : List Value} {x0 : _} (hr0 : RProblem.rel H0 bs0 cs0 x0) {x1 : Int} (hx1 : I64 x1) : Runs Try.prog 5 #[.agg cs0.toArray, .int .i64 x1] H0 (fun v _ => v = .bool true) := by
  refine f5.enter ?_
  unfold f5.w
  have h := Loc.start H0
  have h := h.lent ⟨_, hr0⟩
  have lc0 := RProblem.len hr0
  have cc0 := RProblem.cell hr0
  have hsz0 := cnRes_sz x0 x1 
  have hsz1 :=  wProblem_le x0
  refine Wl.box h fun H b1 h => ?_
  refine Wl.getA h lc0 ?_
  refine Wl.szA sz10 h h.rd (by omega) (by omega) (fun _ H h => ?_) fun _ H h => Wi.lss (Wi.tru (by first | exact rfl | trivial))
  refine Wi.lssC (fun h => by omega) fun _ => ?_
  try simp only [gw]
  refine Wl.getA h lc0 ?_
  refine Wl.toA to12 h h.rd (by omega) fun H c2 l h => ?_
  have lc_c2 := (h.rd (cs := c2)).len
  have cc_c2 := (h.rd (cs := c2)).cell
  refine Wi.call (fn21 h.rd hx1 (by omega) fun H u3 f => ?_)
  have h := h.add f
  try simp only [gw]
  refine Wl.getA h lc0 ?_
  refine Wl.toA to12 h h.rd (by omega) fun H c4 l h => ?_
  have lc_c4 := (h.rd (cs := c4)).len
  have cc_c4 := (h.rd (cs := c4)).cell
  refine Wl.new h fun H b5 h => ?_
  refine Wl.putA h rfl lc_c4 cc_c4 fun H h => ?_
  refine Wl.getA h lc_c4 ?_
  refine Wi.call (fn22 h.rd hx1 (by omega) fun H u6 f => ?_)
  have h := h.add f
  try simp only [gw]
  refine Wl.eqC eq14 h h.rd h.rd fun H l h => ?_
  try simp only [gw]
  refine Wi.neqC (fun h => absurd rfl h) fun _ => ?_
  try simp only [gw]
  refine Wl.getA h lc_c4 ?_
  refine Wl.getA h lc0 ?_
  refine Wl.toA to12 h h.rd (by omega) fun H c7 l h => ?_
  refine ⟨l, ?_⟩
  have lc_c7 := (h.rd (cs := c7)).len
  have cc_c7 := (h.rd (cs := c7)).cell
  refine Wl.eqA eq15 h h.rd h.rd fun H l h => ?_
  refine ⟨l, ?_⟩
  try simp only [gw]
  refine Wl.getA h lc_c4 ?_
  refine Wl.markA mark16 h (by omega) (by omega) fun H h => ?_
  refine Wi.lssC (fun h => by omega) fun _ => ?_
  try simp only [gw]
  refine Wl.eqC eq14 h h.rd h.rd fun H l h => ?_
  try simp only [gw]
  refine Wi.neqC (fun h => absurd rfl h) fun _ => ?_
  try simp only [gw]
  refine Wl.markC mark17 h (by omega) (by omega) fun H h => ?_
  refine Wl.heldC held18 h h.rd (by omega) (by omega) fun H h => ?_
  refine Wi.lssC (fun h => by omega) fun _ => ?_
  try simp only [gw]
  refine Wi.neqC (fun h => absurd rfl h) fun _ => ?_
  try simp only [gw]
  refine Wl.getA h lc0 ?_
  refine Wl.toA to12 h h.rd (by omega) fun H c8 l h => ?_
  have lc_c8 := (h.rd (cs := c8)).len
  have cc_c8 := (h.rd (cs := c8)).cell
  refine Wi.call (fn22 h.rd hx1 (by omega) fun H u9 f => ?_)
  have h := h.add f
  try simp only [gw]
  refine Wl.eqC eq14 h h.rd h.rd fun H l h => ?_
  try simp only [gw]
  refine Wi.neqC (fun h => absurd rfl h) fun _ => ?_
  try simp only [gw]
  refine Wl.heldC held18 h h.rd (by omega) (by omega) fun H h => ?_
  refine Wi.lssC (fun h => by omega) fun _ => ?_
  try simp only [gw]
  refine Wi.neqC (fun h => absurd rfl h) fun _ => ?_
  try simp only [gw]
  all_goals first | rfl | trivial


end Go.Proofs.Ytmhbbkidedjefaa
