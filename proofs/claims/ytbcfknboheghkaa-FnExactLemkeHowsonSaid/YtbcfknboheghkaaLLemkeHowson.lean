/- The law FnExactLemkeHowson answers true on any abstract heap that holds its arguments. No condition. -/
import Derived.Test.YtbcfknboheghkaaLH4
import Derived.Test.YtbcfknboheghkaaLH6
import Derived.Test.YtbcfknboheghkaaA5
import Derived.Test.YtbcfknboheghkaaA6
namespace Go.Proofs.Ytbcfknboheghkaa
open Go.Ab

theorem lhRes_sz (g : Game) (a : Int) : szFS (lhRes g a).1 ≤ 1048576 := by
  rw [szFS_len]
  unfold lhRes
  split
  · rename_i hg
    split
    · split
      · split
        · rename_i m _ _
          have h1 := mixV_len g.1.length (zOf (nG g) (lhIt g a.toNat (m + 1)))
          rw [zOf_len] at h1
          have h2 : nG g ≤ 5 := hg.kl
          show 2 * (mixV g.1.length (zOf (nG g) (lhIt g a.toNat (m + 1)))).1.length ≤ 1048576
          omega
        · exact Nat.zero_le _
      · exact Nat.zero_le _
    · exact Nat.zero_le _
  · exact Nat.zero_le _

/- loop.example/g01343/laws.FnExactLemkeHowson -/
def f3.w (Q : Post) (aG_0 : Value) (aA_1 : Value) (H : Heap) : Prop :=
  W.box aG_0 24 H fun v1 H =>
  W.getN 2 v1 H fun v2 H =>
  W.call Try.prog (.func (.func 4) #[] #[]) #[v2, (.int .i64 1048576)] H fun v3 H =>
  W.bin .lss v3 (.int .i64 0) H fun v4 H =>
  W.cond v4 H
  (fun H => Q (.bool true) H)
  (fun H => W.getN 2 v1 H fun v5 H =>
   W.call Try.prog (.func (.func 6) #[] #[]) #[v5] H fun v6 H =>
   W.call Try.prog (.func (.func 5) #[] #[]) #[v6, aA_1] H fun v7 H =>
   W.extract 0 v7 H fun v8 H =>
   W.extract 1 v7 H fun v9 H =>
   W.extract 2 v7 H fun v10 H =>
   W.getN 2 v1 H fun v11 H =>
   W.call Try.prog (.func (.func 6) #[] #[]) #[v11] H fun v12 H =>
   W.new [(.slice none 0 0), (.slice none 0 0)] 29 H fun v13 H =>
   W.putN 2 v13 v12 H fun _ H =>
   W.getN 2 v13 H fun v14 H =>
   W.call Try.prog (.func (.func 7) #[] #[]) #[v14, aA_1] H fun v15 H =>
   W.extract 0 v15 H fun v16 H =>
   W.extract 1 v15 H fun v17 H =>
   W.extract 2 v15 H fun v18 H =>
   W.call Try.prog (.func (.func 8) #[] #[]) #[v16, v8] H fun v19 H =>
   W.un .not v19 H fun v20 H =>
   W.guarded v20 false (fun H k => k v17 H) H fun v21 H =>
   W.guarded v20 false (fun H k => k v9 H) H fun v22 H =>
   W.guarded v20 false (fun H k => W.bin .neq v21 v22 H k) H fun v23 H =>
   W.pick v20 (.bool true) v23 H fun v24 H =>
   W.guarded v24 false (fun H k => k v18 H) H fun v25 H =>
   W.guarded v24 false (fun H k => k v10 H) H fun v26 H =>
   W.guarded v24 false (fun H k => W.bin .neq v25 v26 H k) H fun v27 H =>
   W.pick v24 (.bool true) v27 H fun v28 H =>
   W.cond v28 H
   (fun H => Q (.bool false) H)
   (fun H => W.getN 2 v13 H fun v29 H =>
    W.getN 2 v1 H fun v30 H =>
    W.callQ Try.prog (.func (.func 6) #[] #[]) #[v30] H fun v31 H =>
    W.callQ Try.prog (.func (.func 9) #[] #[]) #[v29, v31] H fun v32 H =>
    W.un .not v32 H fun v33 H =>
    W.cond v33 H
    (fun H => Q (.bool false) H)
    (fun H => W.getN 2 v13 H fun v34 H =>
     W.call Try.prog (.func (.func 10) #[] #[]) #[v34, (.int .i64 1)] H fun v35 H =>
     W.bin .lss v35 (.int .i64 0) H fun v36 H =>
     W.guarded v36 false (fun H k => k v16 H) H fun v37 H =>
     W.guarded v36 false (fun H k => k v8 H) H fun v38 H =>
     W.guarded v36 false (fun H k => W.call Try.prog (.func (.func 8) #[] #[]) #[v37, v38] H k) H fun v39 H =>
     W.guarded v36 false (fun H k => W.un .not v39 H k) H fun v40 H =>
     W.pick v36 (.bool true) v40 H fun v41 H =>
     W.guarded v41 false (fun H k => k v17 H) H fun v42 H =>
     W.guarded v41 false (fun H k => k v9 H) H fun v43 H =>
     W.guarded v41 false (fun H k => W.bin .neq v42 v43 H k) H fun v44 H =>
     W.pick v41 (.bool true) v44 H fun v45 H =>
     W.guarded v45 false (fun H k => k v18 H) H fun v46 H =>
     W.guarded v45 false (fun H k => k v10 H) H fun v47 H =>
     W.guarded v45 false (fun H k => W.bin .neq v46 v47 H k) H fun v48 H =>
     W.pick v45 (.bool true) v48 H fun v49 H =>
     W.cond v49 H
     (fun H => Q (.bool false) H)
     (fun H => W.call Try.prog (.func (.func 11) #[] #[]) #[v16, (.int .i64 1)] H fun v50 H =>
      W.call Try.prog (.func (.func 12) #[] #[]) #[v16, (.int .i64 1)] H fun v51 H =>
      W.bin .lss v51 (.int .i64 0) H fun v52 H =>
      W.cond v52 H
      (fun H => Q (.bool false) H)
      (fun H => W.bin .neq v51 v50 H fun v53 H =>
       W.cond v53 H
       (fun H => Q (.bool false) H)
       (fun H => W.getN 2 v1 H fun v54 H =>
        W.call Try.prog (.func (.func 6) #[] #[]) #[v54] H fun v55 H =>
        W.call Try.prog (.func (.func 7) #[] #[]) #[v55, aA_1] H fun v56 H =>
        W.extract 0 v56 H fun v57 H =>
        W.extract 1 v56 H fun v58 H =>
        W.extract 2 v56 H fun v59 H =>
        W.call Try.prog (.func (.func 8) #[] #[]) #[v57, v8] H fun v60 H =>
        W.un .not v60 H fun v61 H =>
        W.guarded v61 false (fun H k => k v58 H) H fun v62 H =>
        W.guarded v61 false (fun H k => k v9 H) H fun v63 H =>
        W.guarded v61 false (fun H k => W.bin .neq v62 v63 H k) H fun v64 H =>
        W.pick v61 (.bool true) v64 H fun v65 H =>
        W.guarded v65 false (fun H k => k v59 H) H fun v66 H =>
        W.guarded v65 false (fun H k => k v10 H) H fun v67 H =>
        W.guarded v65 false (fun H k => W.bin .neq v66 v67 H k) H fun v68 H =>
        W.pick v65 (.bool true) v68 H fun v69 H =>
        W.cond v69 H
        (fun H => Q (.bool false) H)
        (fun H => W.call Try.prog (.func (.func 12) #[] #[]) #[v16, (.int .i64 1)] H fun v70 H =>
         W.bin .lss v70 (.int .i64 0) H fun v71 H =>
         W.cond v71 H
         (fun H => Q (.bool false) H)
         (fun H => W.bin .neq v70 v50 H fun v72 H =>
          W.cond v72 H
          (fun H => Q (.bool false) H)
          (fun H => Q (.bool true) H)))))))))
theorem f3.enter {Q : Post} {aG_0 : Value} {aA_1 : Value} {H : Heap} (h : f3.w Q aG_0 aA_1 H) : Runs Try.prog 3 #[aG_0, aA_1] H Q :=
  fn_enter (ann := []) (by kernel_rfl) Try.func3 rfl (by kernel_rfl) h (by kernel_rfl)

theorem law3 {H0 : Heap} {bs0 : List Nat} {cs0 : List Value} {x0 : _} (hr0 : RGame.rel H0 bs0 cs0 x0) {x1 : Int} (hx1 : I64 x1) : Runs Try.prog 3 #[.agg cs0.toArray, .int .i64 x1] H0 (fun v _ => v = .bool true) := by
  refine f3.enter ?_
  unfold f3.w
  have h := Loc.start H0
  have h := h.lent ⟨_, hr0⟩
  have lc0 := RGame.len hr0
  have cc0 := RGame.cell hr0
  have hsz0 := lhRes_sz x0 x1 
  have hsz1 :=  wGame_le x0
  refine Wl.box h fun H b1 h => ?_
  refine Wl.getA h lc0 ?_
  refine Wl.szA sz4 h h.rd (by omega) (by omega) (fun _ H h => ?_) fun _ H h => Wi.lss (Wi.tru (by first | exact rfl | trivial))
  refine Wi.lssC (fun h => by omega) fun _ => ?_
  try simp only [gw]
  refine Wl.getA h lc0 ?_
  refine Wl.toA to6 h h.rd (by omega) fun H c2 l h => ?_
  have lc_c2 := (h.rd (cs := c2)).len
  have cc_c2 := (h.rd (cs := c2)).cell
  refine Wi.call (fn5 h.rd hx1 (by omega) fun H u3 f => ?_)
  have h := h.add f
  try simp only [gw]
  refine Wl.getA h lc0 ?_
  refine Wl.toA to6 h h.rd (by omega) fun H c4 l h => ?_
  have lc_c4 := (h.rd (cs := c4)).len
  have cc_c4 := (h.rd (cs := c4)).cell
  refine Wl.new h fun H b5 h => ?_
  refine Wl.putA h rfl lc_c4 cc_c4 fun H h => ?_
  refine Wl.getA h lc_c4 ?_
  refine Wi.call (fn7 h.rd hx1 (by omega) fun H u6 f => ?_)
  have h := h.add f
  try simp only [gw]
  refine Wl.eqC eq8 h h.rd h.rd fun H l h => ?_
  try simp only [gw]
  refine Wi.neqC (fun h => absurd rfl h) fun _ => ?_
  try simp only [gw]
  refine Wi.neqC (fun h => absurd rfl h) fun _ => ?_
  try simp only [gw]
  refine Wl.getA h lc_c4 ?_
  refine Wl.getA h lc0 ?_
  refine Wl.toA to6 h h.rd (by omega) fun H c7 l h => ?_
  refine ⟨l, ?_⟩
  have lc_c7 := (h.rd (cs := c7)).len
  have cc_c7 := (h.rd (cs := c7)).cell
  refine Wl.eqA eq9 h h.rd h.rd fun H l h => ?_
  refine ⟨l, ?_⟩
  try simp only [gw]
  refine Wl.getA h lc_c4 ?_
  refine Wl.markA mark10 h (by omega) (by omega) fun H h => ?_
  refine Wi.lssC (fun h => by omega) fun _ => ?_
  try simp only [gw]
  refine Wl.eqC eq8 h h.rd h.rd fun H l h => ?_
  try simp only [gw]
  refine Wi.neqC (fun h => absurd rfl h) fun _ => ?_
  try simp only [gw]
  refine Wi.neqC (fun h => absurd rfl h) fun _ => ?_
  try simp only [gw]
  refine Wl.markC mark11 h (by omega) (by omega) fun H h => ?_
  refine Wl.heldC held12 h h.rd (by omega) (by omega) fun H h => ?_
  refine Wi.lssC (fun h => by omega) fun _ => ?_
  try simp only [gw]
  refine Wi.neqC (fun h => absurd rfl h) fun _ => ?_
  try simp only [gw]
  refine Wl.getA h lc0 ?_
  refine Wl.toA to6 h h.rd (by omega) fun H c8 l h => ?_
  have lc_c8 := (h.rd (cs := c8)).len
  have cc_c8 := (h.rd (cs := c8)).cell
  refine Wi.call (fn7 h.rd hx1 (by omega) fun H u9 f => ?_)
  have h := h.add f
  try simp only [gw]
  refine Wl.eqC eq8 h h.rd h.rd fun H l h => ?_
  try simp only [gw]
  refine Wi.neqC (fun h => absurd rfl h) fun _ => ?_
  try simp only [gw]
  refine Wi.neqC (fun h => absurd rfl h) fun _ => ?_
  try simp only [gw]
  refine Wl.heldC held12 h h.rd (by omega) (by omega) fun H h => ?_
  refine Wi.lssC (fun h => by omega) fun _ => ?_
  try simp only [gw]
  refine Wi.neqC (fun h => absurd rfl h) fun _ => ?_
  try simp only [gw]
  all_goals first | rfl | trivial


end Go.Proofs.Ytbcfknboheghkaa
