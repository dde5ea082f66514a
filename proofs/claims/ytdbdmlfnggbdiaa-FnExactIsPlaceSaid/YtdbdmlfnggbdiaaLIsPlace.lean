/- The law FnExactIsPlace answers true on any abstract heap that holds its arguments. No condition. -/
import Derived.Test.YtdbdmlfnggbdiaaQ2
import Derived.Test.YtdbdmlfnggbdiaaQ3
import Derived.Test.YtdbdmlfnggbdiaaA5
namespace Go.Proofs.Ytdbdmlfnggbdiaa
open Go.Ab

/- loop.example/g01343/laws.FnExactIsPlace -/
def f4.w (Q : Post) (aP_0 : Value) (aX_1 : Value) (H : Heap) : Prop :=
  W.box aP_0 34 H fun v1 H =>
  W.getN 4 v1 H fun v2 H =>
  W.call Try.prog (.func (.func 16) #[] #[]) #[v2, (.int .i64 1048576)] H fun v3 H =>
  W.bin .lss v3 (.int .i64 0) H fun v4 H =>
  W.cond v4 H
  (fun H => Q (.bool true) H)
  (fun H => W.call Try.prog (.func (.func 17) #[] #[]) #[aX_1, v3] H fun v5 H =>
   W.bin .lss v5 (.int .i64 0) H fun v6 H =>
   W.cond v6 H
   (fun H => Q (.bool true) H)
   (fun H => W.getN 4 v1 H fun v7 H =>
    W.call Try.prog (.func (.func 19) #[] #[]) #[v7] H fun v8 H =>
    W.call Try.prog (.func (.func 20) #[] #[]) #[aX_1] H fun v9 H =>
    W.call Try.prog (.func (.func 18) #[] #[]) #[v8, v9] H fun v10 H =>
    W.extract 0 v10 H fun v11 H =>
    W.extract 1 v10 H fun v12 H =>
    W.getN 4 v1 H fun v13 H =>
    W.call Try.prog (.func (.func 19) #[] #[]) #[v13] H fun v14 H =>
    W.new [(.slice none 0 0), (.slice none 0 0), (.slice none 0 0), (.slice none 0 0)] 39 H fun v15 H =>
    W.putN 4 v15 v14 H fun _ H =>
    W.call Try.prog (.func (.func 20) #[] #[]) #[aX_1] H fun v16 H =>
    W.getN 4 v15 H fun v17 H =>
    W.call Try.prog (.func (.func 21) #[] #[]) #[v17, v16] H fun v18 H =>
    W.extract 0 v18 H fun v19 H =>
    W.extract 1 v18 H fun v20 H =>
    W.eqBool .neq v19 v11 H fun v21 H =>
    W.guarded v21 false (fun H k => k v20 H) H fun v22 H =>
    W.guarded v21 false (fun H k => k v12 H) H fun v23 H =>
    W.guarded v21 false (fun H k => W.bin .neq v22 v23 H k) H fun v24 H =>
    W.pick v21 (.bool true) v24 H fun v25 H =>
    W.cond v25 H
    (fun H => Q (.bool false) H)
    (fun H => W.getN 4 v15 H fun v26 H =>
     W.getN 4 v1 H fun v27 H =>
     W.callQ Try.prog (.func (.func 19) #[] #[]) #[v27] H fun v28 H =>
     W.callQ Try.prog (.func (.func 22) #[] #[]) #[v26, v28] H fun v29 H =>
     W.un .not v29 H fun v30 H =>
     W.cond v30 H
     (fun H => Q (.bool false) H)
     (fun H => W.call Try.prog (.func (.func 20) #[] #[]) #[aX_1] H fun v31 H =>
      W.call Try.prog (.func (.func 23) #[] #[]) #[v16, v31] H fun v32 H =>
      W.un .not v32 H fun v33 H =>
      W.cond v33 H
      (fun H => Q (.bool false) H)
      (fun H => Q (.bool true) H)))))
theorem f4.enter {Q : Post} {aP_0 : Value} {aX_1 : Value} {H : Heap} (h : f4.w Q aP_0 aX_1 H) : Runs Try.prog 4 #[aP_0, aX_1] H Q :=
  fn_enter (ann := []) (by kernel_rfl) Try.func4 rfl (by kernel_rfl) h (by kernel_rfl)

theorem law4 {H0 : Heap} {bs0 : List Nat} {cs0 : List Value} {x0 : _} (hr0 : RPrg.rel H0 bs0 cs0 x0) {bs1 : List Nat} {v1 : Value} {x1 : _} (hr1 : RFS.rel H0 bs1 [v1] x1) : Runs Try.prog 4 #[.agg cs0.toArray, v1] H0 (fun v _ => v = .bool true) := by
  refine f4.enter ?_
  unfold f4.w
  have h := Loc.start H0
  have h := h.lent ⟨_, hr0⟩
  have lc0 := RPrg.len hr0
  have cc0 := RPrg.cell hr0
  have h := h.lent ⟨_, hr1⟩
  refine Wl.box h fun H b1 h => ?_
  refine Wl.getA h lc0 ?_
  refine Wl.szA sz16 h h.rd (by omega) (by omega) (fun _ H h => ?_) fun _ H h => Wi.lss (Wi.tru (by first | exact rfl | trivial))
  refine Wi.lssC (fun h => by omega) fun _ => ?_
  try simp only [gw]
  refine Wl.szC sz17 h h.rd (by omega) (by omega) (fun _ H h => ?_) fun _ H h => Wi.lss (Wi.tru (by first | exact rfl | trivial))
  refine Wi.lssC (fun h => by omega) fun _ => ?_
  try simp only [gw]
  refine Wl.getA h lc0 ?_
  refine Wl.toA to19 h h.rd (by omega) fun H c2 l h => ?_
  have lc_c2 := (h.rd (cs := c2)).len
  have cc_c2 := (h.rd (cs := c2)).cell
  refine Wl.toC to20 h h.rd (by omega) fun H u3 l h => ?_
  refine Wi.call (fn18 h.rd h.rd (by omega) (by omega) fun H  f => ?_)
  have h := h.to f
  try simp only [gw]
  refine Wl.getA h lc0 ?_
  refine Wl.toA to19 h h.rd (by omega) fun H c5 l h => ?_
  have lc_c5 := (h.rd (cs := c5)).len
  have cc_c5 := (h.rd (cs := c5)).cell
  refine Wl.new h fun H b6 h => ?_
  refine Wl.putA h rfl lc_c5 cc_c5 fun H h => ?_
  refine Wl.toC to20 h h.rd (by omega) fun H u7 l h => ?_
  refine Wl.getA h lc_c5 ?_
  refine Wi.call (fn21 h.rd h.rd (by omega) (by omega) fun H  f => ?_)
  have h := h.to f
  try simp only [gw]
  refine Wi.neqBool ?_
  simp only [beq_self_eq_true, Bool.not_true]
  try simp only [gw]
  refine Wi.neqC (fun h => absurd rfl h) fun _ => ?_
  try simp only [gw]
  refine Wl.getA h lc_c5 ?_
  refine Wl.getA h lc0 ?_
  refine Wl.toA to19 h h.rd (by omega) fun H c9 l h => ?_
  refine ⟨l, ?_⟩
  have lc_c9 := (h.rd (cs := c9)).len
  have cc_c9 := (h.rd (cs := c9)).cell
  refine Wl.eqA eq22 h h.rd h.rd fun H l h => ?_
  refine ⟨l, ?_⟩
  try simp only [gw]
  refine Wl.toC to20 h h.rd (by omega) fun H u10 l h => ?_
  refine Wl.eqC eq23 h h.rd h.rd fun H l h => ?_
  try simp only [gw]
  all_goals first | rfl | trivial


end Go.Proofs.Ytdbdmlfnggbdiaa
