/- The law FnExactRenumberProblem answers true on any abstract heap that holds its arguments. No condition. -/
import Derived.Test.YtccppfpjiaafaaaE2
import Derived.Test.YtccppfpjiaafaaaE3
namespace Go.Proofs.Ytccppfpjiaafaaa
open Go.Ab

theorem wProblem_le (p : Prob) : szProblem p ≤ wProblem p := by
  have := szSS_le p.1
  simp only [szp, szS_len]
  omega

theorem probPut_ok {p : Prob} {l : List Int} (h : isProb p = true) : szProblem (probPut p l p.1.length) ≤ 1048576 := by
  obtain ⟨ok1, ok2, ok3, ok4, ok5, ok6⟩ := isProb_rows h
  obtain ⟨h1, h2⟩ := probPut_len p l p.1.length
  have h3 : szSS (probPut p l p.1.length).1 ≤ (probPut p l p.1.length).1.length * 5 := szl_le _ fun r hr => by
    rw [szS_len, probPut_rows (fun r hr => (ok5 r hr).1) _ r hr]; omega
  simp only [szp, szS_len]
  omega

theorem renRes_sz (p : Prob) (l : List Int) : szProblem (renRes p l).1 ≤ 1048576 := by
  have h0 : szProblem (([], []) : Prob) ≤ 1048576 := by decide
  unfold renRes
  split
  · rename_i hb
    split
    · exact probPut_ok hb
    · exact h0
  · exact h0

/- loop.example/g01343/laws.FnExactRenumberProblem -/
def f4.w (Q : Post) (aP_0 : Value) (aList_1 : Value) (H : Heap) : Prop :=
  W.box aP_0 33 H fun v1 H =>
  W.len aList_1 H fun v2 H =>
  W.bin .gtr v2 (.int .i64 1048576) H fun v3 H =>
  W.cond v3 H
  (fun H => Q (.bool true) H)
  (fun H => W.getN 2 v1 H fun v4 H =>
   W.call Try.prog (.func (.func 16) #[] #[]) #[v4, (.int .i64 1048576)] H fun v5 H =>
   W.bin .lss v5 (.int .i64 0) H fun v6 H =>
   W.cond v6 H
   (fun H => Q (.bool true) H)
   (fun H => W.getN 2 v1 H fun v7 H =>
    W.call Try.prog (.func (.func 18) #[] #[]) #[v7] H fun v8 H =>
    W.call Try.prog (.func (.func 19) #[] #[]) #[aList_1] H fun v9 H =>
    W.call Try.prog (.func (.func 17) #[] #[]) #[v8, v9] H fun v10 H =>
    W.extract 0 v10 H fun v11 H =>
    W.extract 1 v10 H fun v12 H =>
    W.new [(.slice none 0 0), (.slice none 0 0)] 35 H fun v13 H =>
    W.putN 2 v13 v11 H fun _ H =>
    W.getN 2 v1 H fun v14 H =>
    W.call Try.prog (.func (.func 18) #[] #[]) #[v14] H fun v15 H =>
    W.new [(.slice none 0 0), (.slice none 0 0)] 35 H fun v16 H =>
    W.putN 2 v16 v15 H fun _ H =>
    W.call Try.prog (.func (.func 19) #[] #[]) #[aList_1] H fun v17 H =>
    W.getN 2 v16 H fun v18 H =>
    W.call Try.prog (.func (.func 20) #[] #[]) #[v18, v17] H fun v19 H =>
    W.extract 0 v19 H fun v20 H =>
    W.extract 1 v19 H fun v21 H =>
    W.new [(.slice none 0 0), (.slice none 0 0)] 35 H fun v22 H =>
    W.putN 2 v22 v20 H fun _ H =>
    W.getN 2 v22 H fun v23 H =>
    W.getN 2 v13 H fun v24 H =>
    W.call Try.prog (.func (.func 21) #[] #[]) #[v23, v24] H fun v25 H =>
    W.un .not v25 H fun v26 H =>
    W.guarded v26 false (fun H k => k v21 H) H fun v27 H =>
    W.guarded v26 false (fun H k => k v12 H) H fun v28 H =>
    W.guarded v26 false (fun H k => W.bin .neq v27 v28 H k) H fun v29 H =>
    W.pick v26 (.bool true) v29 H fun v30 H =>
    W.cond v30 H
    (fun H => Q (.bool false) H)
    (fun H => W.getN 2 v16 H fun v31 H =>
     W.getN 2 v1 H fun v32 H =>
     W.callQ Try.prog (.func (.func 18) #[] #[]) #[v32] H fun v33 H =>
     W.callQ Try.prog (.func (.func 21) #[] #[]) #[v31, v33] H fun v34 H =>
     W.un .not v34 H fun v35 H =>
     W.cond v35 H
     (fun H => Q (.bool false) H)
     (fun H => W.call Try.prog (.func (.func 19) #[] #[]) #[aList_1] H fun v36 H =>
      W.call Try.prog (.func (.func 22) #[] #[]) #[v17, v36] H fun v37 H =>
      W.un .not v37 H fun v38 H =>
      W.cond v38 H
      (fun H => Q (.bool false) H)
      (fun H => W.getN 2 v16 H fun v39 H =>
       W.call Try.prog (.func (.func 23) #[] #[]) #[v39, (.int .i64 1)] H fun v40 H =>
       W.call Try.prog (.func (.func 24) #[] #[]) #[v17, v40] H fun v41 H =>
       W.bin .lss v41 (.int .i64 0) H fun v42 H =>
       W.guarded v42 false (fun H k => W.getN 2 v22 H k) H fun v43 H =>
       W.guarded v42 false (fun H k => W.getN 2 v13 H k) H fun v44 H =>
       W.guarded v42 false (fun H k => W.call Try.prog (.func (.func 21) #[] #[]) #[v43, v44] H k) H fun v45 H =>
       W.guarded v42 false (fun H k => W.un .not v45 H k) H fun v46 H =>
       W.pick v42 (.bool true) v46 H fun v47 H =>
       W.guarded v47 false (fun H k => k v21 H) H fun v48 H =>
       W.guarded v47 false (fun H k => k v12 H) H fun v49 H =>
       W.guarded v47 false (fun H k => W.bin .neq v48 v49 H k) H fun v50 H =>
       W.pick v47 (.bool true) v50 H fun v51 H =>
       W.cond v51 H
       (fun H => Q (.bool false) H)
       (fun H => W.getN 2 v22 H fun v52 H =>
        W.call Try.prog (.func (.func 23) #[] #[]) #[v52, (.int .i64 1)] H fun v53 H =>
        W.getN 2 v22 H fun v54 H =>
        W.call Try.prog (.func (.func 25) #[] #[]) #[v54, (.int .i64 1)] H fun v55 H =>
        W.bin .lss v55 (.int .i64 0) H fun v56 H =>
        W.cond v56 H
        (fun H => Q (.bool false) H)
        (fun H => W.bin .neq v55 v53 H fun v57 H =>
         W.cond v57 H
         (fun H => Q (.bool false) H)
         (fun H => W.getN 2 v1 H fun v58 H =>
          W.call Try.prog (.func (.func 18) #[] #[]) #[v58] H fun v59 H =>
          W.call Try.prog (.func (.func 19) #[] #[]) #[aList_1] H fun v60 H =>
          W.call Try.prog (.func (.func 20) #[] #[]) #[v59, v60] H fun v61 H =>
          W.extract 0 v61 H fun v62 H =>
          W.extract 1 v61 H fun v63 H =>
          W.new [(.slice none 0 0), (.slice none 0 0)] 35 H fun v64 H =>
          W.putN 2 v64 v62 H fun _ H =>
          W.getN 2 v64 H fun v65 H =>
          W.getN 2 v13 H fun v66 H =>
          W.call Try.prog (.func (.func 21) #[] #[]) #[v65, v66] H fun v67 H =>
          W.un .not v67 H fun v68 H =>
          W.guarded v68 false (fun H k => k v63 H) H fun v69 H =>
          W.guarded v68 false (fun H k => k v12 H) H fun v70 H =>
          W.guarded v68 false (fun H k => W.bin .neq v69 v70 H k) H fun v71 H =>
          W.pick v68 (.bool true) v71 H fun v72 H =>
          W.cond v72 H
          (fun H => Q (.bool false) H)
          (fun H => W.getN 2 v22 H fun v73 H =>
           W.call Try.prog (.func (.func 25) #[] #[]) #[v73, (.int .i64 1)] H fun v74 H =>
           W.bin .lss v74 (.int .i64 0) H fun v75 H =>
           W.cond v75 H
           (fun H => Q (.bool false) H)
           (fun H => W.bin .neq v74 v53 H fun v76 H =>
            W.cond v76 H
            (fun H => Q (.bool false) H)
            (fun H => Q (.bool true) H)))))))))))
theorem f4.enter {Q : Post} {aP_0 : Value} {aList_1 : Value} {H : Heap} (h : f4.w Q aP_0 aList_1 H) : Runs Try.prog 4 #[aP_0, aList_1] H Q :=
  fn_enter (ann := []) (by kernel_rfl) Try.func4 rfl (by kernel_rfl) h (by kernel_rfl)

theorem law4 {H0 : Heap} {bs0 : List Nat} {cs0 : List Value} {x0 : _} (hr0 : RProblem.rel H0 bs0 cs0 x0) {bs1 : List Nat} {v1 : Value} {x1 : _} (hr1 : RS.rel H0 bs1 [v1] x1) : Runs Try.prog 4 #[.agg cs0.toArray, v1] H0 (fun v _ => v = .bool true) := by
  refine f4.enter ?_
  unfold f4.w
  have h := Loc.start H0
  have h := h.lent ⟨_, hr0⟩
  have lc0 := RProblem.len hr0
  have cc0 := RProblem.cell hr0
  have h := h.lent ⟨_, hr1⟩
  have hsz0 := renRes_sz x0 x1 
  have hsz1 :=  wProblem_le x0 
  have hsz2 :=  Nat.le_of_eq (szS_len x1)
  refine Wl.box h fun H b1 h => ?_
  refine Wl.len h ?_
  refine Wi.gtrC (fun _ => Wi.tru rfl) fun _ => Wi.fls ?_
  refine Wl.getA h lc0 ?_
  refine Wl.szA sz16 h h.rd (by omega) (by omega) (fun _ H h => ?_) fun _ H h => Wi.lss (Wi.tru rfl)
  refine Wi.lssC (fun h => by omega) fun _ => ?_
  try simp only [gw]
  refine Wl.getA h lc0 ?_
  refine Wl.toA to18 h h.rd (by omega) fun H c2 l h => ?_
  have lc_c2 := (h.rd (cs := c2)).len
  have cc_c2 := (h.rd (cs := c2)).cell
  refine Wl.toC to19 h h.rd (by omega) fun H u3 l h => ?_
  refine Wi.call (fn17 h.rd h.rd (by omega) (by omega) fun H c4 f => ?_)
  have h := h.add f
  have lc_c4 := (h.rd (cs := c4)).len
  have cc_c4 := (h.rd (cs := c4)).cell
  try simp only [gw]
  refine Wl.new h fun H b5 h => ?_
  refine Wl.putA h rfl lc_c4 cc_c4 fun H h => ?_
  refine Wl.getA h lc0 ?_
  refine Wl.toA to18 h h.rd (by omega) fun H c6 l h => ?_
  have lc_c6 := (h.rd (cs := c6)).len
  have cc_c6 := (h.rd (cs := c6)).cell
  refine Wl.new h fun H b7 h => ?_
  refine Wl.putA h rfl lc_c6 cc_c6 fun H h => ?_
  refine Wl.toC to19 h h.rd (by omega) fun H u8 l h => ?_
  refine Wl.getA h lc_c6 ?_
  refine Wi.call (fn20 h.rd h.rd (by omega) (by omega) fun H c9 f => ?_)
  have h := h.add f
  have lc_c9 := (h.rd (cs := c9)).len
  have cc_c9 := (h.rd (cs := c9)).cell
  try simp only [gw]
  refine Wl.new h fun H b10 h => ?_
  refine Wl.putA h rfl lc_c9 cc_c9 fun H h => ?_
  refine Wl.getA h lc_c9 ?_
  refine Wl.getA h lc_c4 ?_
  refine Wl.eqA eq21 h h.rd h.rd fun H l h => ?_
  try simp only [gw]
  refine Wi.neqC (fun h => absurd rfl h) fun _ => ?_
  try simp only [gw]
  refine Wl.getA h lc_c6 ?_
  refine Wl.getA h lc0 ?_
  refine Wl.toA to18 h h.rd (by omega) fun H c11 l h => ?_
  refine ⟨l, ?_⟩
  have lc_c11 := (h.rd (cs := c11)).len
  have cc_c11 := (h.rd (cs := c11)).cell
  refine Wl.eqA eq21 h h.rd h.rd fun H l h => ?_
  refine ⟨l, ?_⟩
  try simp only [gw]
  refine Wl.toC to19 h h.rd (by omega) fun H u12 l h => ?_
  refine Wl.eqC eq22 h h.rd h.rd fun H l h => ?_
  try simp only [gw]
  refine Wl.getA h lc_c6 ?_
  refine Wl.markA mark23 h (by omega) (by omega) fun H h => ?_
  refine Wl.markC mark24 h (by omega) (by omega) fun H h => ?_
  refine Wi.lssC (fun h => by omega) fun _ => ?_
  try simp only [gw]
  refine Wl.getA h lc_c9 ?_
  try simp only [gw]
  refine Wl.getA h lc_c4 ?_
  try simp only [gw]
  refine Wl.eqA eq21 h h.rd h.rd fun H l h => ?_
  try simp only [gw]
  refine Wi.neqC (fun h => absurd rfl h) fun _ => ?_
  try simp only [gw]
  refine Wl.getA h lc_c9 ?_
  refine Wl.markA mark23 h (by omega) (by omega) fun H h => ?_
  refine Wl.getA h lc_c9 ?_
  refine Wl.heldA held25 h h.rd (by omega) (by omega) fun H h => ?_
  refine Wi.lssC (fun h => by omega) fun _ => ?_
  try simp only [gw]
  refine Wi.neqC (fun h => absurd rfl h) fun _ => ?_
  try simp only [gw]
  refine Wl.getA h lc0 ?_
  refine Wl.toA to18 h h.rd (by omega) fun H c13 l h => ?_
  have lc_c13 := (h.rd (cs := c13)).len
  have cc_c13 := (h.rd (cs := c13)).cell
  refine Wl.toC to19 h h.rd (by omega) fun H u14 l h => ?_
  refine Wi.call (fn20 h.rd h.rd (by omega) (by omega) fun H c15 f => ?_)
  have h := h.add f
  have lc_c15 := (h.rd (cs := c15)).len
  have cc_c15 := (h.rd (cs := c15)).cell
  try simp only [gw]
  refine Wl.new h fun H b16 h => ?_
  refine Wl.putA h rfl lc_c15 cc_c15 fun H h => ?_
  refine Wl.getA h lc_c15 ?_
  refine Wl.getA h lc_c4 ?_
  refine Wl.eqA eq21 h h.rd h.rd fun H l h => ?_
  try simp only [gw]
  refine Wi.neqC (fun h => absurd rfl h) fun _ => ?_
  try simp only [gw]
  refine Wl.getA h lc_c9 ?_
  refine Wl.heldA held25 h h.rd (by omega) (by omega) fun H h => ?_
  refine Wi.lssC (fun h => by omega) fun _ => ?_
  try simp only [gw]
  refine Wi.neqC (fun h => absurd rfl h) fun _ => ?_
  try simp only [gw]
  all_goals rfl


end Go.Proofs.Ytccppfpjiaafaaa
