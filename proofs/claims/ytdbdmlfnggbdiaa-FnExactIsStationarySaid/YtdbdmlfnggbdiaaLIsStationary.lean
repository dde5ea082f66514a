/- The law FnExactIsStationary answers true on any abstract heap that holds its arguments. No condition. -/
import Derived.Test.YtdbdmlfnggbdiaaY1
import Derived.Test.YtdbdmlfnggbdiaaY2
import Derived.Test.YtdbdmlfnggbdiaaA5
namespace Go.Proofs.Ytdbdmlfnggbdiaa
open Go.Ab

/- loop.example/g01343/laws.FnExactIsStationary -/
def f6.w (Q : Post) (aP_0 : Value) (aX_1 : Value) (aY_2 : Value) (H : Heap) : Prop :=
  W.box aP_0 34 H fun v1 H =>
  W.getN 4 v1 H fun v2 H =>
  W.call Try.prog (.func (.func 16) #[] #[]) #[v2, (.int .i64 1048576)] H fun v3 H =>
  W.bin .lss v3 (.int .i64 0) H fun v4 H =>
  W.cond v4 H
  (fun H => Q (.bool true) H)
  (fun H => W.call Try.prog (.func (.func 17) #[] #[]) #[aX_1, v3] H fun v5 H =>
   W.bin .lss v5 (.int .i64 0) H fun v6 H =>
   W.cond v6 H
   (fun H => Q (.bool true) H)
   (fun H => W.call Try.prog (.func (.func 17) #[] #[]) #[aY_2, v5] H fun v7 H =>
    W.bin .lss v7 (.int .i64 0) H fun v8 H =>
    W.cond v8 H
    (fun H => Q (.bool true) H)
    (fun H => W.getN 4 v1 H fun v9 H =>
     W.call Try.prog (.func (.func 19) #[] #[]) #[v9] H fun v10 H =>
     W.call Try.prog (.func (.func 20) #[] #[]) #[aX_1] H fun v11 H =>
     W.call Try.prog (.func (.func 20) #[] #[]) #[aY_2] H fun v12 H =>
     W.call Try.prog (.func (.func 27) #[] #[]) #[v10, v11, v12] H fun v13 H =>
     W.extract 0 v13 H fun v14 H =>
     W.extract 1 v13 H fun v15 H =>
     W.getN 4 v1 H fun v16 H =>
     W.call Try.prog (.func (.func 19) #[] #[]) #[v16] H fun v17 H =>
     W.new [(.slice none 0 0), (.slice none 0 0), (.slice none 0 0), (.slice none 0 0)] 39 H fun v18 H =>
     W.putN 4 v18 v17 H fun _ H =>
     W.call Try.prog (.func (.func 20) #[] #[]) #[aX_1] H fun v19 H =>
     W.call Try.prog (.func (.func 20) #[] #[]) #[aY_2] H fun v20 H =>
     W.getN 4 v18 H fun v21 H =>
     W.call Try.prog (.func (.func 28) #[] #[]) #[v21, v19, v20] H fun v22 H =>
     W.extract 0 v22 H fun v23 H =>
     W.extract 1 v22 H fun v24 H =>
     W.eqBool .neq v23 v14 H fun v25 H =>
     W.guarded v25 false (fun H k => k v24 H) H fun v26 H =>
     W.guarded v25 false (fun H k => k v15 H) H fun v27 H =>
     W.guarded v25 false (fun H k => W.bin .neq v26 v27 H k) H fun v28 H =>
     W.pick v25 (.bool true) v28 H fun v29 H =>
     W.cond v29 H
     (fun H => Q (.bool false) H)
     (fun H => W.getN 4 v18 H fun v30 H =>
      W.getN 4 v1 H fun v31 H =>
      W.callQ Try.prog (.func (.func 19) #[] #[]) #[v31] H fun v32 H =>
      W.callQ Try.prog (.func (.func 22) #[] #[]) #[v30, v32] H fun v33 H =>
      W.un .not v33 H fun v34 H =>
      W.cond v34 H
      (fun H => Q (.bool false) H)
      (fun H => W.call Try.prog (.func (.func 20) #[] #[]) #[aX_1] H fun v35 H =>
       W.call Try.prog (.func (.func 23) #[] #[]) #[v19, v35] H fun v36 H =>
       W.un .not v36 H fun v37 H =>
       W.cond v37 H
       (fun H => Q (.bool false) H)
       (fun H => W.call Try.prog (.func (.func 20) #[] #[]) #[aY_2] H fun v38 H =>
        W.call Try.prog (.func (.func 23) #[] #[]) #[v20, v38] H fun v39 H =>
        W.un .not v39 H fun v40 H =>
        W.cond v40 H
        (fun H => Q (.bool false) H)
        (fun H => Q (.bool true) H)))))))
theorem f6.enter {Q : Post} {aP_0 : Value} {aX_1 : Value} {aY_2 : Value} {H : Heap} (h : f6.w Q aP_0 aX_1 aY_2 H) : Runs Try.prog 6 #[aP_0, aX_1, aY_2] H Q :=
  fn_enter (ann := []) (by kernel_rfl) Try.func6 rfl (by kernel_rfl) h (by kernel_rfl)

theorem law6 {H0 : Heap} {bs0 : List Nat} {cs0 : List Value} {x0 : _} (hr0 : RPrg.rel H0 bs0 cs0 x0) {bs1 : List Nat} {v1 : Value} {x1 : _} (hr1 : RFS.rel H0 bs1 [v1] x1) {bs2 : List Nat} {v2 : Value} {x2 : _} (hr2 : RFS.rel H0 bs2 [v2] x2) : Runs Try.prog 6 #[.agg cs0.toArray, v1, v2] H0 (fun v _ => v = .bool true) := by
  refine f6.enter ?_
  unfold f6.w
  have h := Loc.start H0
  have h := h.lent ⟨_, hr0⟩
  have lc0 := RPrg.len hr0
  have cc0 := RPrg.cell hr0
  have h := h.lent ⟨_, hr1⟩
  have h := h.lent ⟨_, hr2⟩
  refine Wl.box h fun H b1 h => ?_
  refine Wl.getA h lc0 ?_
  refine Wl.szA sz16 h h.rd (by omega) (by omega) (fun _ H h => ?_) fun _ H h => Wi.lss (Wi.tru (by first | exact rfl | trivial))
  refine Wi.lssC (fun h => by omega) fun _ => ?_
  try simp only [gw]
  refine Wl.szC sz17 h h.rd (by omega) (by omega) (fun _ H h => ?_) fun _ H h => Wi.lss (Wi.tru (by first | exact rfl | trivial))
  refine Wi.lssC (fun h => by omega) fun _ => ?_
  try simp only [gw]
  refine Wl.szC sz17 h h.rd (by omega) (by omega) (fun _ H h => ?_) fun _ H h => Wi.lss (Wi.tru (by first | exact rfl | trivial))
  refine Wi.lssC (fun h => by omega) fun _ => ?_
  try simp only [gw]
  refine Wl.getA h lc0 ?_
  refine Wl.toA to19 h h.rd (by omega) fun H c2 l h => ?_
  have lc_c2 := (h.rd (cs := c2)).len
  have cc_c2 := (h.rd (cs := c2)).cell
  refine Wl.toC to20 h h.rd (by omega) fun H u3 l h => ?_
  refine Wl.toC to20 h h.rd (by omega) fun H u4 l h => ?_
  refine Wi.call (fn27 h.rd h.rd h.rd (by omega) (by omega) (by omega) fun H  f => ?_)
  have h := h.to f
  try simp only [gw]
  refine Wl.getA h lc0 ?_
  refine Wl.toA to19 h h.rd (by omega) fun H c6 l h => ?_
  have lc_c6 := (h.rd (cs := c6)).len
  have cc_c6 := (h.rd (cs := c6)).cell
  refine Wl.new h fun H b7 h => ?_
  refine Wl.putA h rfl lc_c6 cc_c6 fun H h => ?_
  refine Wl.toC to20 h h.rd (by omega) fun H u8 l h => ?_
  refine Wl.toC to20 h h.rd (by omega) fun H u9 l h => ?_
  refine Wl.getA h lc_c6 ?_
  refine Wi.call (fn28 h.rd h.rd h.rd (by omega) (by omega) (by omega) fun H  f => ?_)
  have h := h.to f
  try simp only [gw]
  refine Wi.neqBool ?_
  simp only [beq_self_eq_true, Bool.not_true]
  try simp only [gw]
  refine Wi.neqC (fun h => absurd rfl h) fun _ => ?_
  try simp only [gw]
  refine Wl.getA h lc_c6 ?_
  refine Wl.getA h lc0 ?_
  refine Wl.toA to19 h h.rd (by omega) fun H c11 l h => ?_
  refine ⟨l, ?_⟩
  have lc_c11 := (h.rd (cs := c11)).len
  have cc_c11 := (h.rd (cs := c11)).cell
  refine Wl.eqA eq22 h h.rd h.rd fun H l h => ?_
  refine ⟨l, ?_⟩
  try simp only [gw]
  refine Wl.toC to20 h h.rd (by omega) fun H u12 l h => ?_
  refine Wl.eqC eq23 h h.rd h.rd fun H l h => ?_
  try simp only [gw]
  refine Wl.toC to20 h h.rd (by omega) fun H u13 l h => ?_
  refine Wl.eqC eq23 h h.rd h.rd fun H l h => ?_
  try simp only [gw]
  all_goals first | rfl | trivial


end Go.Proofs.Ytdbdmlfnggbdiaa
