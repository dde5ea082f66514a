/- The law FnExactLeastAlong answers true on any abstract heap that holds its arguments. No condition. -/
import Derived.Test.YtccppfpjiaafaaaM2
import Derived.Test.YtccppfpjiaafaaaM3
namespace Go.Proofs.Ytccppfpjiaafaaa
open Go.Ab

/- loop.example/g01343/laws.FnExactLeastAlong -/
def f9.w (Q : Post) (aP_0 : Value) (aX_1 : Value) (aU_2 : Value) (H : Heap) : Prop :=
  W.box aP_0 25 H fun v1 H =>
  W.len aX_1 H fun v2 H =>
  W.bin .gtr v2 (.int .i64 1048576) H fun v3 H =>
  W.cond v3 H
  (fun H => Q (.bool true) H)
  (fun H => W.len aU_2 H fun v4 H =>
   W.bin .gtr v4 (.int .i64 1048576) H fun v5 H =>
   W.cond v5 H
   (fun H => Q (.bool true) H)
   (fun H => W.getN 4 v1 H fun v6 H =>
    W.call Try.prog (.func (.func 11) #[] #[]) #[v6, (.int .i64 1048576)] H fun v7 H =>
    W.bin .lss v7 (.int .i64 0) H fun v8 H =>
    W.cond v8 H
    (fun H => Q (.bool true) H)
    (fun H => W.getN 4 v1 H fun v9 H =>
     W.call Try.prog (.func (.func 13) #[] #[]) #[v9] H fun v10 H =>
     W.call Try.prog (.func (.func 19) #[] #[]) #[aX_1] H fun v11 H =>
     W.call Try.prog (.func (.func 19) #[] #[]) #[aU_2] H fun v12 H =>
     W.call Try.prog (.func (.func 40) #[] #[]) #[v10, v11, v12] H fun v13 H =>
     W.extract 0 v13 H fun v14 H =>
     W.extract 1 v13 H fun v15 H =>
     W.extract 2 v13 H fun v16 H =>
     W.new [(.int .i64 0), (.int .i64 0)] 62 H fun v17 H =>
     W.new [(.int .i64 0), (.int .i64 0)] 62 H fun v18 H =>
     W.putN 2 v17 v14 H fun _ H =>
     W.putN 2 v18 v15 H fun _ H =>
     W.getN 4 v1 H fun v19 H =>
     W.call Try.prog (.func (.func 13) #[] #[]) #[v19] H fun v20 H =>
     W.new [(.slice none 0 0), (.slice none 0 0), (.slice none 0 0), (.slice none 0 0)] 28 H fun v21 H =>
     W.putN 4 v21 v20 H fun _ H =>
     W.call Try.prog (.func (.func 19) #[] #[]) #[aX_1] H fun v22 H =>
     W.call Try.prog (.func (.func 19) #[] #[]) #[aU_2] H fun v23 H =>
     W.getN 4 v21 H fun v24 H =>
     W.call Try.prog (.func (.func 41) #[] #[]) #[v24, v22, v23] H fun v25 H =>
     W.extract 0 v25 H fun v26 H =>
     W.extract 1 v25 H fun v27 H =>
     W.extract 2 v25 H fun v28 H =>
     W.new [(.int .i64 0), (.int .i64 0)] 62 H fun v29 H =>
     W.new [(.int .i64 0), (.int .i64 0)] 62 H fun v30 H =>
     W.putN 2 v29 v26 H fun _ H =>
     W.putN 2 v30 v27 H fun _ H =>
     W.getN 2 v29 H fun v31 H =>
     W.getN 2 v17 H fun v32 H =>
     W.call Try.prog (.func (.func 42) #[] #[]) #[v31, v32] H fun v33 H =>
     W.un .not v33 H fun v34 H =>
     W.guarded v34 false (fun H k => W.getN 2 v30 H k) H fun v35 H =>
     W.guarded v34 false (fun H k => W.getN 2 v18 H k) H fun v36 H =>
     W.guarded v34 false (fun H k => W.call Try.prog (.func (.func 42) #[] #[]) #[v35, v36] H k) H fun v37 H =>
     W.guarded v34 false (fun H k => W.un .not v37 H k) H fun v38 H =>
     W.pick v34 (.bool true) v38 H fun v39 H =>
     W.guarded v39 false (fun H k => k v28 H) H fun v40 H =>
     W.guarded v39 false (fun H k => k v16 H) H fun v41 H =>
     W.guarded v39 false (fun H k => W.bin .neq v40 v41 H k) H fun v42 H =>
     W.pick v39 (.bool true) v42 H fun v43 H =>
     W.cond v43 H
     (fun H => Q (.bool false) H)
     (fun H => W.getN 4 v21 H fun v44 H =>
      W.getN 4 v1 H fun v45 H =>
      W.callQ Try.prog (.func (.func 13) #[] #[]) #[v45] H fun v46 H =>
      W.callQ Try.prog (.func (.func 15) #[] #[]) #[v44, v46] H fun v47 H =>
      W.un .not v47 H fun v48 H =>
      W.cond v48 H
      (fun H => Q (.bool false) H)
      (fun H => W.call Try.prog (.func (.func 19) #[] #[]) #[aX_1] H fun v49 H =>
       W.call Try.prog (.func (.func 22) #[] #[]) #[v22, v49] H fun v50 H =>
       W.un .not v50 H fun v51 H =>
       W.cond v51 H
       (fun H => Q (.bool false) H)
       (fun H => W.call Try.prog (.func (.func 19) #[] #[]) #[aU_2] H fun v52 H =>
        W.call Try.prog (.func (.func 22) #[] #[]) #[v23, v52] H fun v53 H =>
        W.un .not v53 H fun v54 H =>
        W.cond v54 H
        (fun H => Q (.bool false) H)
        (fun H => Q (.bool true) H)))))))
theorem f9.enter {Q : Post} {aP_0 : Value} {aX_1 : Value} {aU_2 : Value} {H : Heap} (h : f9.w Q aP_0 aX_1 aU_2 H) : Runs Try.prog 9 #[aP_0, aX_1, aU_2] H Q :=
  fn_enter (ann := []) (by kernel_rfl) Try.func9 rfl (by kernel_rfl) h (by kernel_rfl)

theorem law9 {H0 : Heap} {bs0 : List Nat} {cs0 : List Value} {x0 : _} (hr0 : RPrg.rel H0 bs0 cs0 x0) {bs1 : List Nat} {v1 : Value} {x1 : _} (hr1 : RS.rel H0 bs1 [v1] x1) {bs2 : List Nat} {v2 : Value} {x2 : _} (hr2 : RS.rel H0 bs2 [v2] x2) : Runs Try.prog 9 #[.agg cs0.toArray, v1, v2] H0 (fun v _ => v = .bool true) := by
  refine f9.enter ?_
  unfold f9.w
  have h := Loc.start H0
  have h := h.lent ⟨_, hr0⟩
  have lc0 := RPrg.len hr0
  have cc0 := RPrg.cell hr0
  have h := h.lent ⟨_, hr1⟩
  have h := h.lent ⟨_, hr2⟩
  refine Wl.box h fun H b1 h => ?_
  refine Wl.len h ?_
  refine Wi.gtrC (fun _ => Wi.tru rfl) fun _ => Wi.fls ?_
  refine Wl.len h ?_
  refine Wi.gtrC (fun _ => Wi.tru rfl) fun _ => Wi.fls ?_
  refine Wl.getA h lc0 ?_
  refine Wl.szA sz11 h h.rd (by omega) (by omega) (fun _ H h => ?_) fun _ H h => Wi.lss (Wi.tru rfl)
  refine Wi.lssC (fun h => by omega) fun _ => ?_
  try simp only [gw]
  refine Wl.getA h lc0 ?_
  refine Wl.toA to13 h h.rd (by omega) fun H c2 l h => ?_
  have lc_c2 := (h.rd (cs := c2)).len
  have cc_c2 := (h.rd (cs := c2)).cell
  refine Wl.toC to19 h h.rd (by omega) fun H u3 l h => ?_
  refine Wl.toC to19 h h.rd (by omega) fun H u4 l h => ?_
  refine Wi.call (fn40 h.rd h.rd h.rd (by omega) (by omega) (by omega) fun H  f => ?_)
  have h := h.to f
  try simp only [gw]
  refine Wl.new h fun H b7 h => ?_
  refine Wl.new h fun H b8 h => ?_
  refine Wl.putA h rfl rfl rfl fun H h => ?_
  refine Wl.putA h rfl rfl rfl fun H h => ?_
  refine Wl.getA h lc0 ?_
  refine Wl.toA to13 h h.rd (by omega) fun H c9 l h => ?_
  have lc_c9 := (h.rd (cs := c9)).len
  have cc_c9 := (h.rd (cs := c9)).cell
  refine Wl.new h fun H b10 h => ?_
  refine Wl.putA h rfl lc_c9 cc_c9 fun H h => ?_
  refine Wl.toC to19 h h.rd (by omega) fun H u11 l h => ?_
  refine Wl.toC to19 h h.rd (by omega) fun H u12 l h => ?_
  refine Wl.getA h lc_c9 ?_
  refine Wi.call (fn41 h.rd h.rd h.rd (by omega) (by omega) (by omega) fun H  f => ?_)
  have h := h.to f
  try simp only [gw]
  refine Wl.new h fun H b15 h => ?_
  refine Wl.new h fun H b16 h => ?_
  refine Wl.putA h rfl rfl rfl fun H h => ?_
  refine Wl.putA h rfl rfl rfl fun H h => ?_
  refine Wl.getA h rfl ?_
  refine Wl.getA h rfl ?_
  refine Wi.call (fn42 fun H l => ?_)
  have h := h.to l
  try simp only [gw]
  refine Wl.getA h rfl ?_
  try simp only [gw]
  refine Wl.getA h rfl ?_
  try simp only [gw]
  refine Wi.call (fn42 fun H l => ?_)
  have h := h.to l
  try simp only [gw]
  refine Wi.neqC (fun h => absurd rfl h) fun _ => ?_
  try simp only [gw]
  refine Wl.getA h lc_c9 ?_
  refine Wl.getA h lc0 ?_
  refine Wl.toA to13 h h.rd (by omega) fun H c17 l h => ?_
  refine ⟨l, ?_⟩
  have lc_c17 := (h.rd (cs := c17)).len
  have cc_c17 := (h.rd (cs := c17)).cell
  refine Wl.eqA eq15 h h.rd h.rd fun H l h => ?_
  refine ⟨l, ?_⟩
  try simp only [gw]
  refine Wl.toC to19 h h.rd (by omega) fun H u18 l h => ?_
  refine Wl.eqC eq22 h h.rd h.rd fun H l h => ?_
  try simp only [gw]
  refine Wl.toC to19 h h.rd (by omega) fun H u19 l h => ?_
  refine Wl.eqC eq22 h h.rd h.rd fun H l h => ?_
  try simp only [gw]
  all_goals rfl


end Go.Proofs.Ytccppfpjiaafaaa
