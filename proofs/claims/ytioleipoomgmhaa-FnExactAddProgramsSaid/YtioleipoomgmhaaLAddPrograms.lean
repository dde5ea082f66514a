/- The law FnExactAddPrograms answers true on any abstract heap that holds its arguments. No condition. -/
import Derived.Test.YtioleipoomgmhaaH2
import Derived.Test.YtioleipoomgmhaaH3
import Derived.Test.YtioleipoomgmhaaA4
namespace Go.Proofs.Ytioleipoomgmhaa
open Go.Ab

/- loop.example/g01343/laws.FnExactAddPrograms -/
def f4.w (Q : Post) (aP_0 : Value) (aQ_1 : Value) (H : Heap) : Prop :=
  W.box aP_0 39 H fun v1 H =>
  W.box aQ_1 39 H fun v2 H =>
  W.getN 4 v1 H fun v3 H =>
  W.call Try.prog (.func (.func 16) #[] #[]) #[v3, (.int .i64 1048576)] H fun v4 H =>
  W.bin .lss v4 (.int .i64 0) H fun v5 H =>
  W.cond v5 H
  (fun H => Q (.bool true) H)
  (fun H => W.getN 4 v2 H fun v6 H =>
   W.call Try.prog (.func (.func 16) #[] #[]) #[v6, v4] H fun v7 H =>
   W.bin .lss v7 (.int .i64 0) H fun v8 H =>
   W.cond v8 H
   (fun H => Q (.bool true) H)
   (fun H => W.getN 4 v1 H fun v9 H =>
    W.callQ Try.prog (.func (.func 18) #[] #[]) #[v9] H fun v10 H =>
    W.getN 4 v2 H fun v11 H =>
    W.callQ Try.prog (.func (.func 18) #[] #[]) #[v11] H fun v12 H =>
    W.callQ Try.prog (.func (.func 17) #[] #[]) #[v10, v12] H fun v13 H =>
    W.extract 0 v13 H fun v14 H =>
    W.extract 1 v13 H fun v15 H =>
    W.new [(.slice none 0 0), (.slice none 0 0), (.slice none 0 0), (.slice none 0 0)] 41 H fun v16 H =>
    W.putN 4 v16 v14 H fun _ H =>
    W.getN 4 v1 H fun v17 H =>
    W.call Try.prog (.func (.func 18) #[] #[]) #[v17] H fun v18 H =>
    W.new [(.slice none 0 0), (.slice none 0 0), (.slice none 0 0), (.slice none 0 0)] 41 H fun v19 H =>
    W.putN 4 v19 v18 H fun _ H =>
    W.getN 4 v2 H fun v20 H =>
    W.call Try.prog (.func (.func 18) #[] #[]) #[v20] H fun v21 H =>
    W.new [(.slice none 0 0), (.slice none 0 0), (.slice none 0 0), (.slice none 0 0)] 41 H fun v22 H =>
    W.putN 4 v22 v21 H fun _ H =>
    W.getN 4 v19 H fun v23 H =>
    W.getN 4 v22 H fun v24 H =>
    W.call Try.prog (.func (.func 19) #[] #[]) #[v23, v24] H fun v25 H =>
    W.extract 0 v25 H fun v26 H =>
    W.extract 1 v25 H fun v27 H =>
    W.new [(.slice none 0 0), (.slice none 0 0), (.slice none 0 0), (.slice none 0 0)] 41 H fun v28 H =>
    W.putN 4 v28 v26 H fun _ H =>
    W.getN 4 v28 H fun v29 H =>
    W.getN 4 v16 H fun v30 H =>
    W.call Try.prog (.func (.func 20) #[] #[]) #[v29, v30] H fun v31 H =>
    W.un .not v31 H fun v32 H =>
    W.guarded v32 false (fun H k => k v27 H) H fun v33 H =>
    W.guarded v32 false (fun H k => k v15 H) H fun v34 H =>
    W.guarded v32 false (fun H k => W.bin .neq v33 v34 H k) H fun v35 H =>
    W.pick v32 (.bool true) v35 H fun v36 H =>
    W.cond v36 H
    (fun H => Q (.bool false) H)
    (fun H => W.getN 4 v19 H fun v37 H =>
     W.getN 4 v1 H fun v38 H =>
     W.callQ Try.prog (.func (.func 18) #[] #[]) #[v38] H fun v39 H =>
     W.callQ Try.prog (.func (.func 20) #[] #[]) #[v37, v39] H fun v40 H =>
     W.un .not v40 H fun v41 H =>
     W.cond v41 H
     (fun H => Q (.bool false) H)
     (fun H => W.getN 4 v22 H fun v42 H =>
      W.getN 4 v2 H fun v43 H =>
      W.callQ Try.prog (.func (.func 18) #[] #[]) #[v43] H fun v44 H =>
      W.callQ Try.prog (.func (.func 20) #[] #[]) #[v42, v44] H fun v45 H =>
      W.un .not v45 H fun v46 H =>
      W.cond v46 H
      (fun H => Q (.bool false) H)
      (fun H => W.getN 4 v19 H fun v47 H =>
       W.call Try.prog (.func (.func 21) #[] #[]) #[v47, (.int .i64 1)] H fun v48 H =>
       W.getN 4 v22 H fun v49 H =>
       W.call Try.prog (.func (.func 21) #[] #[]) #[v49, v48] H fun v50 H =>
       W.bin .lss v50 (.int .i64 0) H fun v51 H =>
       W.guarded v51 false (fun H k => W.getN 4 v28 H k) H fun v52 H =>
       W.guarded v51 false (fun H k => W.getN 4 v16 H k) H fun v53 H =>
       W.guarded v51 false (fun H k => W.call Try.prog (.func (.func 20) #[] #[]) #[v52, v53] H k) H fun v54 H =>
       W.guarded v51 false (fun H k => W.un .not v54 H k) H fun v55 H =>
       W.pick v51 (.bool true) v55 H fun v56 H =>
       W.guarded v56 false (fun H k => k v27 H) H fun v57 H =>
       W.guarded v56 false (fun H k => k v15 H) H fun v58 H =>
       W.guarded v56 false (fun H k => W.bin .neq v57 v58 H k) H fun v59 H =>
       W.pick v56 (.bool true) v59 H fun v60 H =>
       W.cond v60 H
       (fun H => Q (.bool false) H)
       (fun H => W.getN 4 v28 H fun v61 H =>
        W.call Try.prog (.func (.func 21) #[] #[]) #[v61, (.int .i64 1)] H fun v62 H =>
        W.getN 4 v28 H fun v63 H =>
        W.call Try.prog (.func (.func 22) #[] #[]) #[v63, (.int .i64 1)] H fun v64 H =>
        W.bin .lss v64 (.int .i64 0) H fun v65 H =>
        W.cond v65 H
        (fun H => Q (.bool false) H)
        (fun H => W.bin .neq v64 v62 H fun v66 H =>
         W.cond v66 H
         (fun H => Q (.bool false) H)
         (fun H => W.getN 4 v1 H fun v67 H =>
          W.callQ Try.prog (.func (.func 18) #[] #[]) #[v67] H fun v68 H =>
          W.getN 4 v2 H fun v69 H =>
          W.callQ Try.prog (.func (.func 18) #[] #[]) #[v69] H fun v70 H =>
          W.callQ Try.prog (.func (.func 19) #[] #[]) #[v68, v70] H fun v71 H =>
          W.extract 0 v71 H fun v72 H =>
          W.extract 1 v71 H fun v73 H =>
          W.new [(.slice none 0 0), (.slice none 0 0), (.slice none 0 0), (.slice none 0 0)] 41 H fun v74 H =>
          W.putN 4 v74 v72 H fun _ H =>
          W.getN 4 v74 H fun v75 H =>
          W.getN 4 v16 H fun v76 H =>
          W.call Try.prog (.func (.func 20) #[] #[]) #[v75, v76] H fun v77 H =>
          W.un .not v77 H fun v78 H =>
          W.guarded v78 false (fun H k => k v73 H) H fun v79 H =>
          W.guarded v78 false (fun H k => k v15 H) H fun v80 H =>
          W.guarded v78 false (fun H k => W.bin .neq v79 v80 H k) H fun v81 H =>
          W.pick v78 (.bool true) v81 H fun v82 H =>
          W.cond v82 H
          (fun H => Q (.bool false) H)
          (fun H => W.getN 4 v28 H fun v83 H =>
           W.call Try.prog (.func (.func 22) #[] #[]) #[v83, (.int .i64 1)] H fun v84 H =>
           W.bin .lss v84 (.int .i64 0) H fun v85 H =>
           W.cond v85 H
           (fun H => Q (.bool false) H)
           (fun H => W.bin .neq v84 v62 H fun v86 H =>
            W.cond v86 H
            (fun H => Q (.bool false) H)
            (fun H => Q (.bool true) H)))))))))))
theorem f4.enter {Q : Post} {aP_0 : Value} {aQ_1 : Value} {H : Heap} (h : f4.w Q aP_0 aQ_1 H) : Runs Try.prog 4 #[aP_0, aQ_1] H Q :=
  fn_enter (ann := []) (by kernel_rfl) Try.func4 rfl (by kernel_rfl) h (by kernel_rfl)

theorem law4 {H0 : Heap} {bs0 : List Nat} {cs0 : List Value} {x0 : _} (hr0 : RPrg.rel H0 bs0 cs0 x0) {bs1 : List Nat} {cs1 : List Value} {x1 : _} (hr1 : RPrg.rel H0 bs1 cs1 x1) : Runs Try.prog 4 #[.agg cs0.toArray, .agg cs1.toArray] H0 (fun v _ => v = .bool true) := by
  refine f4.enter ?_
  unfold f4.w
  have h := Loc.start H0
  have h := h.lent ⟨_, hr0⟩
  have lc0 := RPrg.len hr0
  have cc0 := RPrg.cell hr0
  have h := h.lent ⟨_, hr1⟩
  have lc1 := RPrg.len hr1
  have cc1 := RPrg.cell hr1
  have hsz0 := szPrg_of (apRes_sz x0 x1) 
  have hsz1 :=  wPrg_le x0 
  have hsz2 :=  wPrg_le x1
  refine Wl.box h fun H b1 h => ?_
  refine Wl.box h fun H b2 h => ?_
  refine Wl.getA h lc0 ?_
  refine Wl.szA sz16 h h.rd (by omega) (by omega) (fun _ H h => ?_) fun _ H h => Wi.lss (Wi.tru (by first | exact rfl | trivial))
  refine Wi.lssC (fun h => by omega) fun _ => ?_
  try simp only [gw]
  refine Wl.getA h lc1 ?_
  refine Wl.szA sz16 h h.rd (by omega) (by omega) (fun _ H h => ?_) fun _ H h => Wi.lss (Wi.tru (by first | exact rfl | trivial))
  refine Wi.lssC (fun h => by omega) fun _ => ?_
  try simp only [gw]
  refine Wl.getA h lc0 ?_
  refine Wl.toA to18 h h.rd (by omega) fun H c3 l h => ?_
  refine ⟨l, ?_⟩
  have lc_c3 := (h.rd (cs := c3)).len
  have cc_c3 := (h.rd (cs := c3)).cell
  refine Wl.getA h lc1 ?_
  refine Wl.toA to18 h h.rd (by omega) fun H c4 l h => ?_
  refine ⟨l, ?_⟩
  have lc_c4 := (h.rd (cs := c4)).len
  have cc_c4 := (h.rd (cs := c4)).cell
  refine Wi.call (fn17 h.rd h.rd (by omega) (by omega) fun H c5 f => ?_)
  refine ⟨f.le, ?_⟩
  have h := h.add f
  have lc_c5 := (h.rd (cs := c5)).len
  have cc_c5 := (h.rd (cs := c5)).cell
  try simp only [gw]
  refine Wl.new h fun H b6 h => ?_
  refine Wl.putA h rfl lc_c5 cc_c5 fun H h => ?_
  refine Wl.getA h lc0 ?_
  refine Wl.toA to18 h h.rd (by omega) fun H c7 l h => ?_
  have lc_c7 := (h.rd (cs := c7)).len
  have cc_c7 := (h.rd (cs := c7)).cell
  refine Wl.new h fun H b8 h => ?_
  refine Wl.putA h rfl lc_c7 cc_c7 fun H h => ?_
  refine Wl.getA h lc1 ?_
  refine Wl.toA to18 h h.rd (by omega) fun H c9 l h => ?_
  have lc_c9 := (h.rd (cs := c9)).len
  have cc_c9 := (h.rd (cs := c9)).cell
  refine Wl.new h fun H b10 h => ?_
  refine Wl.putA h rfl lc_c9 cc_c9 fun H h => ?_
  refine Wl.getA h lc_c7 ?_
  refine Wl.getA h lc_c9 ?_
  refine Wi.call (fn19 h.rd h.rd (by omega) (by omega) fun H c11 f => ?_)
  have h := h.add f
  have lc_c11 := (h.rd (cs := c11)).len
  have cc_c11 := (h.rd (cs := c11)).cell
  try simp only [gw]
  refine Wl.new h fun H b12 h => ?_
  refine Wl.putA h rfl lc_c11 cc_c11 fun H h => ?_
  refine Wl.getA h lc_c11 ?_
  refine Wl.getA h lc_c5 ?_
  refine Wl.eqA eq20 h h.rd h.rd fun H l h => ?_
  try simp only [gw]
  refine Wi.neqC (fun h => absurd rfl h) fun _ => ?_
  try simp only [gw]
  refine Wl.getA h lc_c7 ?_
  refine Wl.getA h lc0 ?_
  refine Wl.toA to18 h h.rd (by omega) fun H c13 l h => ?_
  refine ⟨l, ?_⟩
  have lc_c13 := (h.rd (cs := c13)).len
  have cc_c13 := (h.rd (cs := c13)).cell
  refine Wl.eqA eq20 h h.rd h.rd fun H l h => ?_
  refine ⟨l, ?_⟩
  try simp only [gw]
  refine Wl.getA h lc_c9 ?_
  refine Wl.getA h lc1 ?_
  refine Wl.toA to18 h h.rd (by omega) fun H c14 l h => ?_
  refine ⟨l, ?_⟩
  have lc_c14 := (h.rd (cs := c14)).len
  have cc_c14 := (h.rd (cs := c14)).cell
  refine Wl.eqA eq20 h h.rd h.rd fun H l h => ?_
  refine ⟨l, ?_⟩
  try simp only [gw]
  refine Wl.getA h lc_c7 ?_
  refine Wl.markA mark21 h (by omega) (by omega) fun H h => ?_
  refine Wl.getA h lc_c9 ?_
  refine Wl.markA mark21 h (by omega) (by omega) fun H h => ?_
  refine Wi.lssC (fun h => by omega) fun _ => ?_
  try simp only [gw]
  refine Wl.getA h lc_c11 ?_
  try simp only [gw]
  refine Wl.getA h lc_c5 ?_
  try simp only [gw]
  refine Wl.eqA eq20 h h.rd h.rd fun H l h => ?_
  try simp only [gw]
  refine Wi.neqC (fun h => absurd rfl h) fun _ => ?_
  try simp only [gw]
  refine Wl.getA h lc_c11 ?_
  refine Wl.markA mark21 h (by omega) (by omega) fun H h => ?_
  refine Wl.getA h lc_c11 ?_
  refine Wl.heldA held22 h h.rd (by omega) (by omega) fun H h => ?_
  refine Wi.lssC (fun h => by omega) fun _ => ?_
  try simp only [gw]
  refine Wi.neqC (fun h => absurd rfl h) fun _ => ?_
  try simp only [gw]
  refine Wl.getA h lc0 ?_
  refine Wl.toA to18 h h.rd (by omega) fun H c15 l h => ?_
  refine ⟨l, ?_⟩
  have lc_c15 := (h.rd (cs := c15)).len
  have cc_c15 := (h.rd (cs := c15)).cell
  refine Wl.getA h lc1 ?_
  refine Wl.toA to18 h h.rd (by omega) fun H c16 l h => ?_
  refine ⟨l, ?_⟩
  have lc_c16 := (h.rd (cs := c16)).len
  have cc_c16 := (h.rd (cs := c16)).cell
  refine Wi.call (fn19 h.rd h.rd (by omega) (by omega) fun H c17 f => ?_)
  refine ⟨f.le, ?_⟩
  have h := h.add f
  have lc_c17 := (h.rd (cs := c17)).len
  have cc_c17 := (h.rd (cs := c17)).cell
  try simp only [gw]
  refine Wl.new h fun H b18 h => ?_
  refine Wl.putA h rfl lc_c17 cc_c17 fun H h => ?_
  refine Wl.getA h lc_c17 ?_
  refine Wl.getA h lc_c5 ?_
  refine Wl.eqA eq20 h h.rd h.rd fun H l h => ?_
  try simp only [gw]
  refine Wi.neqC (fun h => absurd rfl h) fun _ => ?_
  try simp only [gw]
  refine Wl.getA h lc_c11 ?_
  refine Wl.heldA held22 h h.rd (by omega) (by omega) fun H h => ?_
  refine Wi.lssC (fun h => by omega) fun _ => ?_
  try simp only [gw]
  refine Wi.neqC (fun h => absurd rfl h) fun _ => ?_
  try simp only [gw]
  all_goals first | rfl | trivial


end Go.Proofs.Ytioleipoomgmhaa
