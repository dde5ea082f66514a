/- The law FnExactGameProblem answers true on any abstract heap that holds its argument. No condition. -/
import Derived.Test.YtioleipoomgmhaaGM2
namespace Go.Proofs.Ytioleipoomgmhaa
open Go.Ab

/- loop.example/g01343/laws.FnExactGameProblem -/
def f3.w (Q : Post) (aG_0 : Value) (H : Heap) : Prop :=
  W.box aG_0 24 H fun v1 H =>
  W.getN 2 v1 H fun v2 H =>
  W.call Try.prog (.func (.func 7) #[] #[]) #[v2, (.int .i64 1048576)] H fun v3 H =>
  W.bin .lss v3 (.int .i64 0) H fun v4 H =>
  W.cond v4 H
  (fun H => Q (.bool true) H)
  (fun H => W.getN 2 v1 H fun v5 H =>
   W.call Try.prog (.func (.func 9) #[] #[]) #[v5] H fun v6 H =>
   W.call Try.prog (.func (.func 8) #[] #[]) #[v6] H fun v7 H =>
   W.extract 0 v7 H fun v8 H =>
   W.extract 1 v7 H fun v9 H =>
   W.new [(.slice none 0 0), (.slice none 0 0)] 28 H fun v10 H =>
   W.putN 2 v10 v8 H fun _ H =>
   W.getN 2 v1 H fun v11 H =>
   W.call Try.prog (.func (.func 9) #[] #[]) #[v11] H fun v12 H =>
   W.new [(.slice none 0 0), (.slice none 0 0)] 31 H fun v13 H =>
   W.putN 2 v13 v12 H fun _ H =>
   W.getN 2 v13 H fun v14 H =>
   W.call Try.prog (.func (.func 10) #[] #[]) #[v14] H fun v15 H =>
   W.extract 0 v15 H fun v16 H =>
   W.extract 1 v15 H fun v17 H =>
   W.new [(.slice none 0 0), (.slice none 0 0)] 28 H fun v18 H =>
   W.putN 2 v18 v16 H fun _ H =>
   W.getN 2 v18 H fun v19 H =>
   W.getN 2 v10 H fun v20 H =>
   W.call Try.prog (.func (.func 11) #[] #[]) #[v19, v20] H fun v21 H =>
   W.un .not v21 H fun v22 H =>
   W.guarded v22 false (fun H k => k v17 H) H fun v23 H =>
   W.guarded v22 false (fun H k => k v9 H) H fun v24 H =>
   W.guarded v22 false (fun H k => W.bin .neq v23 v24 H k) H fun v25 H =>
   W.pick v22 (.bool true) v25 H fun v26 H =>
   W.cond v26 H
   (fun H => Q (.bool false) H)
   (fun H => W.getN 2 v13 H fun v27 H =>
    W.getN 2 v1 H fun v28 H =>
    W.callQ Try.prog (.func (.func 9) #[] #[]) #[v28] H fun v29 H =>
    W.callQ Try.prog (.func (.func 12) #[] #[]) #[v27, v29] H fun v30 H =>
    W.un .not v30 H fun v31 H =>
    W.cond v31 H
    (fun H => Q (.bool false) H)
    (fun H => W.getN 2 v13 H fun v32 H =>
     W.call Try.prog (.func (.func 13) #[] #[]) #[v32, (.int .i64 1)] H fun v33 H =>
     W.bin .lss v33 (.int .i64 0) H fun v34 H =>
     W.guarded v34 false (fun H k => W.getN 2 v18 H k) H fun v35 H =>
     W.guarded v34 false (fun H k => W.getN 2 v10 H k) H fun v36 H =>
     W.guarded v34 false (fun H k => W.call Try.prog (.func (.func 11) #[] #[]) #[v35, v36] H k) H fun v37 H =>
     W.guarded v34 false (fun H k => W.un .not v37 H k) H fun v38 H =>
     W.pick v34 (.bool true) v38 H fun v39 H =>
     W.guarded v39 false (fun H k => k v17 H) H fun v40 H =>
     W.guarded v39 false (fun H k => k v9 H) H fun v41 H =>
     W.guarded v39 false (fun H k => W.bin .neq v40 v41 H k) H fun v42 H =>
     W.pick v39 (.bool true) v42 H fun v43 H =>
     W.cond v43 H
     (fun H => Q (.bool false) H)
     (fun H => W.getN 2 v18 H fun v44 H =>
      W.call Try.prog (.func (.func 14) #[] #[]) #[v44, (.int .i64 1)] H fun v45 H =>
      W.getN 2 v18 H fun v46 H =>
      W.call Try.prog (.func (.func 15) #[] #[]) #[v46, (.int .i64 1)] H fun v47 H =>
      W.bin .lss v47 (.int .i64 0) H fun v48 H =>
      W.cond v48 H
      (fun H => Q (.bool false) H)
      (fun H => W.bin .neq v47 v45 H fun v49 H =>
       W.cond v49 H
       (fun H => Q (.bool false) H)
       (fun H => W.getN 2 v1 H fun v50 H =>
        W.call Try.prog (.func (.func 9) #[] #[]) #[v50] H fun v51 H =>
        W.call Try.prog (.func (.func 10) #[] #[]) #[v51] H fun v52 H =>
        W.extract 0 v52 H fun v53 H =>
        W.extract 1 v52 H fun v54 H =>
        W.new [(.slice none 0 0), (.slice none 0 0)] 28 H fun v55 H =>
        W.putN 2 v55 v53 H fun _ H =>
        W.getN 2 v55 H fun v56 H =>
        W.getN 2 v10 H fun v57 H =>
        W.call Try.prog (.func (.func 11) #[] #[]) #[v56, v57] H fun v58 H =>
        W.un .not v58 H fun v59 H =>
        W.guarded v59 false (fun H k => k v54 H) H fun v60 H =>
        W.guarded v59 false (fun H k => k v9 H) H fun v61 H =>
        W.guarded v59 false (fun H k => W.bin .neq v60 v61 H k) H fun v62 H =>
        W.pick v59 (.bool true) v62 H fun v63 H =>
        W.cond v63 H
        (fun H => Q (.bool false) H)
        (fun H => W.getN 2 v18 H fun v64 H =>
         W.call Try.prog (.func (.func 15) #[] #[]) #[v64, (.int .i64 1)] H fun v65 H =>
         W.bin .lss v65 (.int .i64 0) H fun v66 H =>
         W.cond v66 H
         (fun H => Q (.bool false) H)
         (fun H => W.bin .neq v65 v45 H fun v67 H =>
          W.cond v67 H
          (fun H => Q (.bool false) H)
          (fun H => Q (.bool true) H)))))))))
theorem f3.enter {Q : Post} {aG_0 : Value} {H : Heap} (h : f3.w Q aG_0 H) : Runs Try.prog 3 #[aG_0] H Q :=
  fn_enter (ann := []) (by kernel_rfl) Try.func3 rfl (by kernel_rfl) h (by kernel_rfl)

theorem law3 {H0 : Heap} {bs0 : List Nat} {cs0 : List Value} {x0 : _} (hr0 : RGame.rel H0 bs0 cs0 x0) : Runs Try.prog 3 #[.agg cs0.toArray] H0 (fun v _ => v = .bool true) := by
  refine f3.enter ?_
  unfold f3.w
  have h := Loc.start H0
  have h := h.lent ⟨_, hr0⟩
  have lc0 := RGame.len hr0
  have cc0 := RGame.cell hr0
  have hsz0 := gmRes_sz x0 
  have hsz1 :=  wGame_le x0
  refine Wl.box h fun H b1 h => ?_
  refine Wl.getA h lc0 ?_
  refine Wl.szA sz7 h h.rd (by omega) (by omega) (fun _ H h => ?_) fun _ H h => Wi.lss (Wi.tru (by first | exact rfl | trivial))
  refine Wi.lssC (fun h => by omega) fun _ => ?_
  try simp only [gw]
  refine Wl.getA h lc0 ?_
  refine Wl.toA to9 h h.rd (by omega) fun H c2 l h => ?_
  have lc_c2 := (h.rd (cs := c2)).len
  have cc_c2 := (h.rd (cs := c2)).cell
  refine Wi.call (fn8 h.rd (by omega) fun H c3 f => ?_)
  have h := h.add f
  have lc_c3 := (h.rd (cs := c3)).len
  have cc_c3 := (h.rd (cs := c3)).cell
  try simp only [gw]
  refine Wl.new h fun H b4 h => ?_
  refine Wl.putA h rfl lc_c3 cc_c3 fun H h => ?_
  refine Wl.getA h lc0 ?_
  refine Wl.toA to9 h h.rd (by omega) fun H c5 l h => ?_
  have lc_c5 := (h.rd (cs := c5)).len
  have cc_c5 := (h.rd (cs := c5)).cell
  refine Wl.new h fun H b6 h => ?_
  refine Wl.putA h rfl lc_c5 cc_c5 fun H h => ?_
  refine Wl.getA h lc_c5 ?_
  refine Wi.call (fn10 h.rd (by omega) fun H c7 f => ?_)
  have h := h.add f
  have lc_c7 := (h.rd (cs := c7)).len
  have cc_c7 := (h.rd (cs := c7)).cell
  try simp only [gw]
  refine Wl.new h fun H b8 h => ?_
  refine Wl.putA h rfl lc_c7 cc_c7 fun H h => ?_
  refine Wl.getA h lc_c7 ?_
  refine Wl.getA h lc_c3 ?_
  refine Wl.eqA eq11 h h.rd h.rd fun H l h => ?_
  try simp only [gw]
  refine Wi.neqC (fun h => absurd rfl h) fun _ => ?_
  try simp only [gw]
  refine Wl.getA h lc_c5 ?_
  refine Wl.getA h lc0 ?_
  refine Wl.toA to9 h h.rd (by omega) fun H c9 l h => ?_
  refine ⟨l, ?_⟩
  have lc_c9 := (h.rd (cs := c9)).len
  have cc_c9 := (h.rd (cs := c9)).cell
  refine Wl.eqA eq12 h h.rd h.rd fun H l h => ?_
  refine ⟨l, ?_⟩
  try simp only [gw]
  refine Wl.getA h lc_c5 ?_
  refine Wl.markA mark13 h (by omega) (by omega) fun H h => ?_
  refine Wi.lssC (fun h => by omega) fun _ => ?_
  try simp only [gw]
  refine Wl.getA h lc_c7 ?_
  try simp only [gw]
  refine Wl.getA h lc_c3 ?_
  try simp only [gw]
  refine Wl.eqA eq11 h h.rd h.rd fun H l h => ?_
  try simp only [gw]
  refine Wi.neqC (fun h => absurd rfl h) fun _ => ?_
  try simp only [gw]
  refine Wl.getA h lc_c7 ?_
  refine Wl.markA mark14 h (by omega) (by omega) fun H h => ?_
  refine Wl.getA h lc_c7 ?_
  refine Wl.heldA held15 h h.rd (by omega) (by omega) fun H h => ?_
  refine Wi.lssC (fun h => by omega) fun _ => ?_
  try simp only [gw]
  refine Wi.neqC (fun h => absurd rfl h) fun _ => ?_
  try simp only [gw]
  refine Wl.getA h lc0 ?_
  refine Wl.toA to9 h h.rd (by omega) fun H c10 l h => ?_
  have lc_c10 := (h.rd (cs := c10)).len
  have cc_c10 := (h.rd (cs := c10)).cell
  refine Wi.call (fn10 h.rd (by omega) fun H c11 f => ?_)
  have h := h.add f
  have lc_c11 := (h.rd (cs := c11)).len
  have cc_c11 := (h.rd (cs := c11)).cell
  try simp only [gw]
  refine Wl.new h fun H b12 h => ?_
  refine Wl.putA h rfl lc_c11 cc_c11 fun H h => ?_
  refine Wl.getA h lc_c11 ?_
  refine Wl.getA h lc_c3 ?_
  refine Wl.eqA eq11 h h.rd h.rd fun H l h => ?_
  try simp only [gw]
  refine Wi.neqC (fun h => absurd rfl h) fun _ => ?_
  try simp only [gw]
  refine Wl.getA h lc_c7 ?_
  refine Wl.heldA held15 h h.rd (by omega) (by omega) fun H h => ?_
  refine Wi.lssC (fun h => by omega) fun _ => ?_
  try simp only [gw]
  refine Wi.neqC (fun h => absurd rfl h) fun _ => ?_
  try simp only [gw]
  all_goals first | rfl | trivial


end Go.Proofs.Ytioleipoomgmhaa
