/- The law FnExactDegreeAt answers true on any abstract heap that holds its argument. No condition. -/
import Derived.Test.YtmhbbkidedjefaaDG1
namespace Go.Proofs.Ytmhbbkidedjefaa
open Go.Ab

/- loop.example/g01343/laws.FnExactDegreeAt -/
def f4.w (Q : Post) (aP_0 : Value) (H : Heap) : Prop :=
  W.box aP_0 25 H fun v1 H =>
  W.getN 2 v1 H fun v2 H =>
  W.call Try.prog (.func (.func 10) #[] #[]) #[v2, (.int .i64 1048576)] H fun v3 H =>
  W.bin .lss v3 (.int .i64 0) H fun v4 H =>
  W.cond v4 H
  (fun H => Q (.bool true) H)
  (fun H => W.getN 2 v1 H fun v5 H =>
   W.call Try.prog (.func (.func 12) #[] #[]) #[v5] H fun v6 H =>
   W.call Try.prog (.func (.func 19) #[] #[]) #[v6] H fun v7 H =>
   W.extract 0 v7 H fun v8 H =>
   W.extract 1 v7 H fun v9 H =>
   W.getN 2 v1 H fun v10 H =>
   W.call Try.prog (.func (.func 12) #[] #[]) #[v10] H fun v11 H =>
   W.new [(.slice none 0 0), (.slice none 0 0)] 29 H fun v12 H =>
   W.putN 2 v12 v11 H fun _ H =>
   W.getN 2 v12 H fun v13 H =>
   W.call Try.prog (.func (.func 20) #[] #[]) #[v13] H fun v14 H =>
   W.extract 0 v14 H fun v15 H =>
   W.extract 1 v14 H fun v16 H =>
   W.bin .neq v15 v8 H fun v17 H =>
   W.guarded v17 false (fun H k => k v16 H) H fun v18 H =>
   W.guarded v17 false (fun H k => k v9 H) H fun v19 H =>
   W.guarded v17 false (fun H k => W.bin .neq v18 v19 H k) H fun v20 H =>
   W.pick v17 (.bool true) v20 H fun v21 H =>
   W.cond v21 H
   (fun H => Q (.bool false) H)
   (fun H => W.getN 2 v12 H fun v22 H =>
    W.getN 2 v1 H fun v23 H =>
    W.callQ Try.prog (.func (.func 12) #[] #[]) #[v23] H fun v24 H =>
    W.callQ Try.prog (.func (.func 15) #[] #[]) #[v22, v24] H fun v25 H =>
    W.un .not v25 H fun v26 H =>
    W.cond v26 H
    (fun H => Q (.bool false) H)
    (fun H => Q (.bool true) H)))
theorem f4.enter {Q : Post} {aP_0 : Value} {H : Heap} (h : f4.w Q aP_0 H) : Runs Try.prog 4 #[aP_0] H Q :=
  fn_enter (ann := []) (by kernel_rfl) Try.func4 rfl (by kernel_rfl) h (by kernel_rfl)

theorem law4 {H0 : Heap} {bs0 : List Nat} {cs0 : List Value} {x0 : _} (hr0 : RProblem.rel H0 bs0 cs0 x0) : Runs Try.prog 4 #[.agg cs0.toArray] H0 (fun v _ => v = .bool true) := by
  refine f4.enter ?_
  unfold f4.w
  have h := Loc.start H0
  have h := h.lent ⟨_, hr0⟩
  have lc0 := RProblem.len hr0
  have cc0 := RProblem.cell hr0
  refine Wl.box h fun H b1 h => ?_
  refine Wl.getA h lc0 ?_
  refine Wl.szA sz10 h h.rd (by omega) (by omega) (fun _ H h => ?_) fun _ H h => Wi.lss (Wi.tru (by first | exact rfl | trivial))
  refine Wi.lssC (fun h => by omega) fun _ => ?_
  try simp only [gw]
  refine Wl.getA h lc0 ?_
  refine Wl.toA to12 h h.rd (by omega) fun H c2 l h => ?_
  have lc_c2 := (h.rd (cs := c2)).len
  have cc_c2 := (h.rd (cs := c2)).cell
  refine Wi.call (fn19 h.rd (by omega) fun H  f => ?_)
  have h := h.to f
  try simp only [gw]
  refine Wl.getA h lc0 ?_
  refine Wl.toA to12 h h.rd (by omega) fun H c4 l h => ?_
  have lc_c4 := (h.rd (cs := c4)).len
  have cc_c4 := (h.rd (cs := c4)).cell
  refine Wl.new h fun H b5 h => ?_
  refine Wl.putA h rfl lc_c4 cc_c4 fun H h => ?_
  refine Wl.getA h lc_c4 ?_
  refine Wi.call (fn20 h.rd (by omega) fun H  f => ?_)
  have h := h.to f
  try simp only [gw]
  refine Wi.neqC (fun h => absurd rfl h) fun _ => ?_
  try simp only [gw]
  refine Wi.neqC (fun h => absurd rfl h) fun _ => ?_
  try simp only [gw]
  refine Wl.getA h lc_c4 ?_
  refine Wl.getA h lc0 ?_
  refine Wl.toA to12 h h.rd (by omega) fun H c7 l h => ?_
  refine ⟨l, ?_⟩
  have lc_c7 := (h.rd (cs := c7)).len
  have cc_c7 := (h.rd (cs := c7)).cell
  refine Wl.eqA eq15 h h.rd h.rd fun H l h => ?_
  refine ⟨l, ?_⟩
  try simp only [gw]
  all_goals first | rfl | trivial


end Go.Proofs.Ytmhbbkidedjefaa
