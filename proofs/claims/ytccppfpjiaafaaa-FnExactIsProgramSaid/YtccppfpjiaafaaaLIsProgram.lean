/- The law FnExactIsProgram answers true on any abstract heap that holds its argument. No condition. -/
import Derived.Test.YtccppfpjiaafaaaP2
namespace Go.Proofs.Ytccppfpjiaafaaa
open Go.Ab

/- loop.example/g01343/laws.FnExactIsProgram -/
def f3.w (Q : Post) (aP_0 : Value) (H : Heap) : Prop :=
  W.box aP_0 25 H fun v1 H =>
  W.getN 4 v1 H fun v2 H =>
  W.call Try.prog (.func (.func 11) #[] #[]) #[v2, (.int .i64 1048576)] H fun v3 H =>
  W.bin .lss v3 (.int .i64 0) H fun v4 H =>
  W.cond v4 H
  (fun H => Q (.bool true) H)
  (fun H => W.getN 4 v1 H fun v5 H =>
   W.call Try.prog (.func (.func 13) #[] #[]) #[v5] H fun v6 H =>
   W.call Try.prog (.func (.func 12) #[] #[]) #[v6] H fun v7 H =>
   W.getN 4 v1 H fun v8 H =>
   W.call Try.prog (.func (.func 13) #[] #[]) #[v8] H fun v9 H =>
   W.new [(.slice none 0 0), (.slice none 0 0), (.slice none 0 0), (.slice none 0 0)] 28 H fun v10 H =>
   W.putN 4 v10 v9 H fun _ H =>
   W.getN 4 v10 H fun v11 H =>
   W.call Try.prog (.func (.func 14) #[] #[]) #[v11] H fun v12 H =>
   W.eqBool .neq v12 v7 H fun v13 H =>
   W.cond v13 H
   (fun H => Q (.bool false) H)
   (fun H => W.getN 4 v10 H fun v14 H =>
    W.getN 4 v1 H fun v15 H =>
    W.callQ Try.prog (.func (.func 13) #[] #[]) #[v15] H fun v16 H =>
    W.callQ Try.prog (.func (.func 15) #[] #[]) #[v14, v16] H fun v17 H =>
    W.un .not v17 H fun v18 H =>
    W.cond v18 H
    (fun H => Q (.bool false) H)
    (fun H => Q (.bool true) H)))
theorem f3.enter {Q : Post} {aP_0 : Value} {H : Heap} (h : f3.w Q aP_0 H) : Runs Try.prog 3 #[aP_0] H Q :=
  fn_enter (ann := []) (by kernel_rfl) Try.func3 rfl (by kernel_rfl) h (by kernel_rfl)

theorem law3 {H0 : Heap} {bs0 : List Nat} {cs0 : List Value} {x0 : _} (hr0 : RPrg.rel H0 bs0 cs0 x0) : Runs Try.prog 3 #[.agg cs0.toArray] H0 (fun v _ => v = .bool true) := by
  refine f3.enter ?_
  unfold f3.w
  have h := Loc.start H0
  have h := h.lent ⟨_, hr0⟩
  have lc0 := RPrg.len hr0
  have cc0 := RPrg.cell hr0
  refine Wl.box h fun H b1 h => ?_
  refine Wl.getA h lc0 ?_
  refine Wl.szA sz11 h h.rd (by omega) (by omega) (fun _ H h => ?_) fun _ H h => Wi.lss (Wi.tru rfl)
  refine Wi.lssC (fun h => by omega) fun _ => ?_
  try simp only [g1, g2, g3, g4, g5, g6, g7, g8, g9, g10, g11, g12, g13, g14, g15, g16, g17, g18, g19]
  refine Wl.getA h lc0 ?_
  refine Wl.toA to13 h h.rd (by omega) fun H c2 l h => ?_
  have lc_c2 := (h.rd (cs := c2)).len
  have cc_c2 := (h.rd (cs := c2)).cell
  refine Wi.call (fn12 h.rd (by omega) fun H b3 l hb3 => ?_)
  have h := h.to l
  refine Wl.getA h lc0 ?_
  refine Wl.toA to13 h h.rd (by omega) fun H c4 l h => ?_
  have lc_c4 := (h.rd (cs := c4)).len
  have cc_c4 := (h.rd (cs := c4)).cell
  refine Wl.new h fun H b5 h => ?_
  refine Wl.putA h rfl lc_c4 cc_c4 fun H h => ?_
  refine Wl.getA h lc_c4 ?_
  refine Wi.call (fn14 h.rd (by omega) fun H b6 l hb6 => ?_)
  have h := h.to l
  have eb : b3 = b6 := by rw [Bool.eq_iff_iff, hb3, hb6]
  refine Wi.neqBool ?_
  rw [eb, show (!(b6 == b6)) = false by simp]
  try simp only [g1, g2, g3, g4, g5, g6, g7, g8, g9, g10, g11, g12, g13, g14, g15, g16, g17, g18, g19]
  refine Wl.getA h lc_c4 ?_
  refine Wl.getA h lc0 ?_
  refine Wl.toA to13 h h.rd (by omega) fun H c7 l h => ?_
  refine ⟨l, ?_⟩
  have lc_c7 := (h.rd (cs := c7)).len
  have cc_c7 := (h.rd (cs := c7)).cell
  refine Wl.eqA eq15 h h.rd h.rd fun H l h => ?_
  refine ⟨l, ?_⟩
  try simp only [g1, g2, g3, g4, g5, g6, g7, g8, g9, g10, g11, g12, g13, g14, g15, g16, g17, g18, g19]
  try simp only [g1, g2, g3, g4, g5, g6, g7, g8, g9, g10, g11, g12, g13, g14, g15, g16, g17, g18, g19]
  all_goals rfl


end Go.Proofs.Ytccppfpjiaafaaa
