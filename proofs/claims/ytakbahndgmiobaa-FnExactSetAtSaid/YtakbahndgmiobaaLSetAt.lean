/- The law FnExactSetAt answers true on any abstract heap that holds its arguments. No condition. -/
import Derived.Test.YtakbahndgmiobaaFP2
import Derived.Test.YtakbahndgmiobaaA5
import Derived.Test.YtakbahndgmiobaaA6
import Derived.Test.YtakbahndgmiobaaW2
namespace Go.Proofs.Ytakbahndgmiobaa
open Go.Ab

/- loop.example/g01343/laws.FnExactSetAt -/
def f3.w (Q : Post) (aP_0 : Value) (aD_1 : Value) (aT_2 : Value) (H : Heap) : Prop :=
  W.box aP_0 25 H fun v1 H =>
  W.box aT_2 27 H fun v2 H =>
  W.len aD_1 H fun v3 H =>
  W.bin .gtr v3 (.int .i64 1048576) H fun v4 H =>
  W.cond v4 H
  (fun H => Q (.bool true) H)
  (fun H => W.getN 2 v1 H fun v5 H =>
   W.call Try.prog (.func (.func 6) #[] #[]) #[v5, (.int .i64 1048576)] H fun v6 H =>
   W.bin .lss v6 (.int .i64 0) H fun v7 H =>
   W.cond v7 H
   (fun H => Q (.bool true) H)
   (fun H => W.getN 2 v1 H fun v8 H =>
    W.callQ Try.prog (.func (.func 8) #[] #[]) #[v8] H fun v9 H =>
    W.callQ Try.prog (.func (.func 9) #[] #[]) #[aD_1] H fun v10 H =>
    W.getN 2 v2 H fun v11 H =>
    W.callQ Try.prog (.func (.func 10) #[] #[]) #[v11] H fun v12 H =>
    W.callQ Try.prog (.func (.func 7) #[] #[]) #[v9, v10, v12] H fun v13 H =>
    W.extract 0 v13 H fun v14 H =>
    W.extract 1 v13 H fun v15 H =>
    W.getN 2 v1 H fun v16 H =>
    W.call Try.prog (.func (.func 8) #[] #[]) #[v16] H fun v17 H =>
    W.new [(.slice none 0 0), (.slice none 0 0)] 31 H fun v18 H =>
    W.putN 2 v18 v17 H fun _ H =>
    W.call Try.prog (.func (.func 9) #[] #[]) #[aD_1] H fun v19 H =>
    W.getN 2 v18 H fun v20 H =>
    W.getN 2 v2 H fun v21 H =>
    W.callQ Try.prog (.func (.func 10) #[] #[]) #[v21] H fun v22 H =>
    W.callQ Try.prog (.func (.func 11) #[] #[]) #[v20, v19, v22] H fun v23 H =>
    W.extract 0 v23 H fun v24 H =>
    W.extract 1 v23 H fun v25 H =>
    W.bin .neq v24 v14 H fun v26 H =>
    W.guarded v26 false (fun H k => k v25 H) H fun v27 H =>
    W.guarded v26 false (fun H k => k v15 H) H fun v28 H =>
    W.guarded v26 false (fun H k => W.bin .neq v27 v28 H k) H fun v29 H =>
    W.pick v26 (.bool true) v29 H fun v30 H =>
    W.cond v30 H
    (fun H => Q (.bool false) H)
    (fun H => W.getN 2 v18 H fun v31 H =>
     W.getN 2 v1 H fun v32 H =>
     W.callQ Try.prog (.func (.func 8) #[] #[]) #[v32] H fun v33 H =>
     W.callQ Try.prog (.func (.func 12) #[] #[]) #[v31, v33] H fun v34 H =>
     W.un .not v34 H fun v35 H =>
     W.cond v35 H
     (fun H => Q (.bool false) H)
     (fun H => W.call Try.prog (.func (.func 9) #[] #[]) #[aD_1] H fun v36 H =>
      W.call Try.prog (.func (.func 13) #[] #[]) #[v19, v36] H fun v37 H =>
      W.un .not v37 H fun v38 H =>
      W.cond v38 H
      (fun H => Q (.bool false) H)
      (fun H => Q (.bool true) H)))))
theorem f3.enter {Q : Post} {aP_0 : Value} {aD_1 : Value} {aT_2 : Value} {H : Heap} (h : f3.w Q aP_0 aD_1 aT_2 H) : Runs Try.prog 3 #[aP_0, aD_1, aT_2] H Q :=
  fn_enter (ann := []) (by kernel_rfl) Try.func3 rfl (by kernel_rfl) h (by kernel_rfl)

theorem law3 {H0 : Heap} {bs0 : List Nat} {cs0 : List Value} {x0 : _} (hr0 : RProblem.rel H0 bs0 cs0 x0) {bs1 : List Nat} {v1 : Value} {x1 : _} (hr1 : RS.rel H0 bs1 [v1] x1) {bs2 : List Nat} {cs2 : List Value} {x2 : Frac} (hr2 : RFrac.rel H0 bs2 cs2 x2) : Runs Try.prog 3 #[.agg cs0.toArray, v1, .agg cs2.toArray] H0 (fun v _ => v = .bool true) := by
  refine f3.enter ?_
  unfold f3.w
  have h := Loc.start H0
  have h := h.lent ⟨_, hr0⟩
  have lc0 := RProblem.len hr0
  have cc0 := RProblem.cell hr0
  have h := h.lent ⟨_, hr1⟩
  have h := h.lent ⟨_, hr2⟩
  have lc2 := RFrac.len hr2
  have cc2 := RFrac.cell hr2
  have hsz0 := wProblem_le x0 
  have hsz1 :=  Nat.le_of_eq (szS_len x1)
  refine Wl.box h fun H b1 h => ?_
  refine Wl.box h fun H b2 h => ?_
  refine Wl.len h ?_
  refine Wi.gtrC (fun _ => Wi.tru (by first | exact rfl | trivial)) fun _ => Wi.fls ?_
  refine Wl.getA h lc0 ?_
  refine Wl.szA sz6 h h.rd (by omega) (by omega) (fun _ H h => ?_) fun _ H h => Wi.lss (Wi.tru (by first | exact rfl | trivial))
  refine Wi.lssC (fun h => by omega) fun _ => ?_
  try simp only [gw]
  refine Wl.getA h lc0 ?_
  refine Wl.toA to8 h h.rd (by omega) fun H c3 l h => ?_
  refine ⟨l, ?_⟩
  have lc_c3 := (h.rd (cs := c3)).len
  have cc_c3 := (h.rd (cs := c3)).cell
  refine Wl.toC to9 h h.rd (by omega) fun H u4 l h => ?_
  refine ⟨l, ?_⟩
  refine Wl.getA h lc2 ?_
  refine Wl.toA to10 h h.rd (by omega) fun H c5 l h => ?_
  refine ⟨l, ?_⟩
  have lc_c5 := (h.rd (cs := c5)).len
  have cc_c5 := (h.rd (cs := c5)).cell
  refine Wi.call (fn7 h.rd h.rd h.rd (by omega) (by omega) fun H  f => ?_)
  refine ⟨f, ?_⟩
  have h := h.to f
  try simp only [gw]
  refine Wl.getA h lc0 ?_
  refine Wl.toA to8 h h.rd (by omega) fun H c7 l h => ?_
  have lc_c7 := (h.rd (cs := c7)).len
  have cc_c7 := (h.rd (cs := c7)).cell
  refine Wl.new h fun H b8 h => ?_
  refine Wl.putA h rfl lc_c7 cc_c7 fun H h => ?_
  refine Wl.toC to9 h h.rd (by omega) fun H u9 l h => ?_
  refine Wl.getA h lc_c7 ?_
  refine Wl.getA h lc2 ?_
  refine Wl.toA to10 h h.rd (by omega) fun H c10 l h => ?_
  refine ⟨l, ?_⟩
  have lc_c10 := (h.rd (cs := c10)).len
  have cc_c10 := (h.rd (cs := c10)).cell
  refine Wi.call (fn11 h.rd h.rd h.rd (by omega) (by omega) fun H  f => ?_)
  refine ⟨f, ?_⟩
  have h := h.to f
  try simp only [gw]
  refine Wi.neqC (fun h => absurd rfl h) fun _ => ?_
  try simp only [gw]
  refine Wi.neqC (fun h => absurd rfl h) fun _ => ?_
  try simp only [gw]
  refine Wl.getA h lc_c7 ?_
  refine Wl.getA h lc0 ?_
  refine Wl.toA to8 h h.rd (by omega) fun H c12 l h => ?_
  refine ⟨l, ?_⟩
  have lc_c12 := (h.rd (cs := c12)).len
  have cc_c12 := (h.rd (cs := c12)).cell
  refine Wl.eqA eq12 h h.rd h.rd fun H l h => ?_
  refine ⟨l, ?_⟩
  try simp only [gw]
  refine Wl.toC to9 h h.rd (by omega) fun H u13 l h => ?_
  refine Wl.eqC eq13 h h.rd h.rd fun H l h => ?_
  try simp only [gw]
  all_goals first | rfl | trivial


end Go.Proofs.Ytakbahndgmiobaa
