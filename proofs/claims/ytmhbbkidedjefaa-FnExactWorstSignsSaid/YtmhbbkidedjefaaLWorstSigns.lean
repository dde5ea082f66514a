/- The law FnExactWorstSigns answers true on any abstract heap that holds its arguments. No condition. -/
import Derived.Test.YtmhbbkidedjefaaSR4
namespace Go.Proofs.Ytmhbbkidedjefaa
open Go.Ab

/- loop.example/g01343/laws.FnExactWorstSigns -/
def f6.w (Q : Post) (aP_0 : Value) (aRule_1 : Value) (H : Heap) : Prop :=
  W.box aP_0 25 H fun v1 H =>
  W.getN 2 v1 H fun v2 H =>
  W.call Try.prog (.func (.func 10) #[] #[]) #[v2, (.int .i64 1048576)] H fun v3 H =>
  W.bin .lss v3 (.int .i64 0) H fun v4 H =>
  W.cond v4 H
  (fun H => Q (.bool true) H)
  (fun H => W.getN 2 v1 H fun v5 H =>
   W.call Try.prog (.func (.func 12) #[] #[]) #[v5] H fun v6 H =>
   W.call Try.prog (.func (.func 23) #[] #[]) #[v6, aRule_1] H fun v7 H =>
   W.extract 0 v7 H fun v8 H =>
   W.extract 1 v7 H fun v9 H =>
   W.extract 2 v7 H fun v10 H =>
   W.getN 2 v1 H fun v11 H =>
   W.call Try.prog (.func (.func 12) #[] #[]) #[v11] H fun v12 H =>
   W.new [(.slice none 0 0), (.slice none 0 0)] 29 H fun v13 H =>
   W.putN 2 v13 v12 H fun _ H =>
   W.getN 2 v13 H fun v14 H =>
   W.call Try.prog (.func (.func 24) #[] #[]) #[v14, aRule_1] H fun v15 H =>
   W.extract 0 v15 H fun v16 H =>
   W.extract 1 v15 H fun v17 H =>
   W.extract 2 v15 H fun v18 H =>
   W.bin .neq v16 v8 H fun v19 H =>
   W.guarded v19 false (fun H k => k v17 H) H fun v20 H =>
   W.guarded v19 false (fun H k => k v9 H) H fun v21 H =>
   W.guarded v19 false (fun H k => W.bin .neq v20 v21 H k) H fun v22 H =>
   W.pick v19 (.bool true) v22 H fun v23 H =>
   W.guarded v23 false (fun H k => k v18 H) H fun v24 H =>
   W.guarded v23 false (fun H k => k v10 H) H fun v25 H =>
   W.guarded v23 false (fun H k => W.bin .neq v24 v25 H k) H fun v26 H =>
   W.pick v23 (.bool true) v26 H fun v27 H =>
   W.cond v27 H
   (fun H => Q (.bool false) H)
   (fun H => W.getN 2 v13 H fun v28 H =>
    W.getN 2 v1 H fun v29 H =>
    W.callQ Try.prog (.func (.func 12) #[] #[]) #[v29] H fun v30 H =>
    W.callQ Try.prog (.func (.func 15) #[] #[]) #[v28, v30] H fun v31 H =>
    W.un .not v31 H fun v32 H =>
    W.cond v32 H
    (fun H => Q (.bool false) H)
    (fun H => Q (.bool true) H)))
theorem f6.enter {Q : Post} {aP_0 : Value} {aRule_1 : Value} {H : Heap} (h : f6.w Q aP_0 aRule_1 H) : Runs Try.prog 6 #[aP_0, aRule_1] H Q :=
  fn_enter (ann := []) (by kernel_rfl) Try.func6 rfl (by kernel_rfl) h (by kernel_rfl)

theorem law6 {H0 : Heap} {bs0 : List Nat} {cs0 : List Value} {x0 : _} (hr0 : RProblem.rel H0 bs0 cs0 x0) {x1 : Int} (hx1 : I64 x1) : Runs Try.prog 6 #[.agg cs0.toArray, .int .i64 x1] H0 (fun v _ => v = .bool true) := by
  refine f6.enter ?_
  unfold f6.w
  have h := Loc.start H0
  have h := h.lent ⟨_, hr0⟩
  have lc0 := RProblem.len hr0
  have cc0 := RProblem.cell hr0
  refine Wl.box h fun H b1 h => ?_
  refine Wl.getA h lc0 ?_
  refine Wl.szA sz10 h h.rd (by omega) (by omega) (fun _ H h => ?_) fun _ H h => Wi.lss (Wi.tru (by first | exact rfl | trivial))
  refine Wi.lssC (fun h => by omega) fun _ => ?_
  try simp only [gw]
  refine Wl.getA h lc0 ?_
  refine Wl.toA to12 h h.rd (by omega) fun H c2 l h => ?_
  have lc_c2 := (h.rd (cs := c2)).len
  have cc_c2 := (h.rd (cs := c2)).cell
  refine Wi.call (fn23 h.rd hx1 (by omega) fun H  f => ?_)
  have h := h.to f
  try simp only [gw]
  refine Wl.getA h lc0 ?_
  refine Wl.toA to12 h h.rd (by omega) fun H c5 l h => ?_
  have lc_c5 := (h.rd (cs := c5)).len
  have cc_c5 := (h.rd (cs := c5)).cell
  refine Wl.new h fun H b6 h => ?_
  refine Wl.putA h rfl lc_c5 cc_c5 fun H h => ?_
  refine Wl.getA h lc_c5 ?_
  refine Wi.call (fn24 h.rd hx1 (by omega) fun H  f => ?_)
  have h := h.to f
  try simp only [gw]
  refine Wi.neqC (fun h => absurd rfl h) fun _ => ?_
  try simp only [gw]
  refine Wi.neqC (fun h => absurd rfl h) fun _ => ?_
  try simp only [gw]
  refine Wi.neqC (fun h => absurd rfl h) fun _ => ?_
  try simp only [gw]
  refine Wl.getA h lc_c5 ?_
  refine Wl.getA h lc0 ?_
  refine Wl.toA to12 h h.rd (by omega) fun H c9 l h => ?_
  refine ⟨l, ?_⟩
  have lc_c9 := (h.rd (cs := c9)).len
  have cc_c9 := (h.rd (cs := c9)).cell
  refine Wl.eqA eq15 h h.rd h.rd fun H l h => ?_
  refine ⟨l, ?_⟩
  try simp only [gw]
  all_goals first | rfl | trivial


end Go.Proofs.Ytmhbbkidedjefaa
