/- The law FnCones answers true on any abstract heap that holds its code. No condition. -/
import Derived.Test.YthfcodelpebjcaaGreatCO0
import Derived.Test.YthfcodelpebjcaaGreatRU2
import Derived.Test.YthfcodelpebjcaaGreatFR9
namespace Go.Proofs.YthfcodelpebjcaaGreat
open Go.Ab

/- loop.example/g01343/laws.FnCones -/
def f3.j3 (Q : Post) (v9 : Value) (v8 : Value) (v5 : Value) (v4 : Value) (H : Heap) : Prop :=
  W.bin .neq v9 (.int .i64 0) H fun v103 H =>
  W.cond v103 H
  (fun H => W.un .not v8 H fun v104 H =>
   Q v104 H)
  (fun H => W.getN 2 v5 H fun v105 H =>
   W.call Tryz.prog (.func (.func 10) #[] #[]) #[v105] H fun v106 H =>
   W.extract 0 v106 H fun v107 H =>
   W.extract 1 v106 H fun v108 H =>
   W.bin .eql v108 (.int .i64 0) H fun v109 H =>
   W.guarded v109 true (fun H k => k v8 H) H fun v110 H =>
   W.guarded v109 true (fun H k => k v107 H) H fun v111 H =>
   W.guarded v109 true (fun H k => k v4 H) H fun v112 H =>
   W.guarded v109 true (fun H k => W.call Tryz.prog (.func (.func 22) #[] #[]) #[v111, v112] H k) H fun v113 H =>
   W.guarded v109 true (fun H k => W.eqBool .eql v110 v113 H k) H fun v114 H =>
   W.pick v109 v114 (.bool false) H fun v115 H =>
   Q v115 H)
def f3.j2 (Q : Post) (v24 : Value) (v20 : Value) (v23 : Value) (v9 : Value) (v8 : Value) (v5 : Value) (v4 : Value) (H : Heap) : Prop :=
  W.bin .eql v24 (.int .i64 0) H fun v92 H =>
  W.cond v92 H
  (fun H => W.getN 2 v20 H fun v93 H =>
   W.call Tryz.prog (.func (.func 21) #[] #[]) #[v93] H fun v94 H =>
   W.extract 0 v94 H fun v95 H =>
   W.extract 1 v94 H fun v96 H =>
   W.bin .neq v96 (.int .i64 0) H fun v97 H =>
   W.guarded v97 false (fun H k => k v95 H) H fun v98 H =>
   W.guarded v97 false (fun H k => k v23 H) H fun v99 H =>
   W.guarded v97 false (fun H k => W.call Tryz.prog (.func (.func 12) #[] #[]) #[v98, v99] H k) H fun v100 H =>
   W.guarded v97 false (fun H k => W.un .not v100 H k) H fun v101 H =>
   W.pick v97 (.bool true) v101 H fun v102 H =>
   W.cond v102 H
   (fun H => Q (.bool false) H)
   (fun H => f3.j3 Q v9 v8 v5 v4 H))
  (fun H => f3.j3 Q v9 v8 v5 v4 H)
def f3.j1 (Q : Post) (v40 : Value) (v36 : Value) (v39 : Value) (v24 : Value) (v20 : Value) (v23 : Value) (v9 : Value) (v8 : Value) (v5 : Value) (v4 : Value) (H : Heap) : Prop :=
  W.bin .eql v40 (.int .i64 0) H fun v79 H =>
  W.cond v79 H
  (fun H => W.fieldAddr 0 v36 H fun v80 H =>
   W.get v80 H fun v81 H =>
   W.call Tryz.prog (.func (.func 20) #[] #[]) #[v81, (.int .i64 0)] H fun v82 H =>
   W.extract 0 v82 H fun v83 H =>
   W.extract 1 v82 H fun v84 H =>
   W.bin .neq v84 (.int .i64 0) H fun v85 H =>
   W.guarded v85 false (fun H k => k v83 H) H fun v86 H =>
   W.guarded v85 false (fun H k => k v86 H) H fun v87 H =>
   W.guarded v87 true (fun H k => k v39 H) H fun v88 H =>
   W.guarded v87 true (fun H k => W.bin .neq v88 (.int .i64 1) H k) H fun v89 H =>
   W.guarded v85 false (fun H k => W.pick v87 v89 (.bool false) H k) H fun v90 H =>
   W.pick v85 (.bool true) v90 H fun v91 H =>
   W.cond v91 H
   (fun H => Q (.bool false) H)
   (fun H => f3.j2 Q v24 v20 v23 v9 v8 v5 v4 H))
  (fun H => f3.j2 Q v24 v20 v23 v9 v8 v5 v4 H)
def f3.l1 (Q : Post) (v53 : Value) (v52 : Value) (v56 : Value) (v40 : Value) (v36 : Value) (v39 : Value) (v24 : Value) (v20 : Value) (v23 : Value) (v9 : Value) (v8 : Value) (v5 : Value) (v4 : Value) (I1 : St [25, 26] → Heap → Prop) (all_25 : Value) (i_26 : Value) (H : Heap) : Prop :=
  W.fieldAddr 1 v53 H fun v69 H =>
  W.get v69 H fun v70 H =>
  W.len v70 H fun v71 H =>
  W.bin .lss i_26 v71 H fun v72 H =>
  W.cond v72 H
  (fun H => W.bin .mul (.int .i64 2) v52 H fun v73 H =>
   W.bin .add v73 (.int .i64 1) H fun v74 H =>
   W.bin .mul all_25 v74 H fun v75 H =>
   W.bin .add i_26 (.int .i64 1) H fun v76 H =>
   I1 (v75, v76, ()) H)
  (fun H => W.call Tryz.prog (.func (.func 19) #[] #[]) #[v56] H fun v77 H =>
   W.bin .neq v77 all_25 H fun v78 H =>
   W.cond v78 H
   (fun H => Q (.bool false) H)
   (fun H => f3.j1 Q v40 v36 v39 v24 v20 v23 v9 v8 v5 v4 H))
def f3.w (Q : Post) (code_0 : Value) (H : Heap) : Prop :=
  W.call Tryz.prog (.func (.func 5) #[] #[]) #[code_0] H fun v1 H =>
  W.cond v1 H
  (fun H => Q (.bool true) H)
  (fun H => W.call Tryz.prog (.func (.func 6) #[] #[]) #[code_0] H fun v2 H =>
   W.extract 0 v2 H fun v3 H =>
   W.extract 1 v2 H fun v4 H =>
   W.new [(.slice none 0 0), (.slice none 0 0)] 27 H fun v5 H =>
   W.putN 2 v5 v3 H fun _ H =>
   W.getN 2 v5 H fun v6 H =>
   W.call Tryz.prog (.func (.func 7) #[] #[]) #[v6, v4] H fun v7 H =>
   W.extract 0 v7 H fun v8 H =>
   W.extract 1 v7 H fun v9 H =>
   W.getN 2 v5 H fun v10 H =>
   W.call Tryz.prog (.func (.func 8) #[] #[]) #[v10, v4] H fun v11 H =>
   W.extract 0 v11 H fun v12 H =>
   W.extract 1 v11 H fun v13 H =>
   W.bin .neq v9 v13 H fun v14 H =>
   W.guarded v14 false (fun H k => k v8 H) H fun v15 H =>
   W.guarded v14 false (fun H k => k v12 H) H fun v16 H =>
   W.guarded v14 false (fun H k => W.eqBool .neq v15 v16 H k) H fun v17 H =>
   W.pick v14 (.bool true) v17 H fun v18 H =>
   W.cond v18 H
   (fun H => Q (.bool false) H)
   (fun H => W.call Tryz.prog (.func (.func 9) #[] #[]) #[code_0] H fun v19 H =>
    W.new [(.slice none 0 0), (.slice none 0 0)] 27 H fun v20 H =>
    W.putN 2 v20 v19 H fun _ H =>
    W.getN 2 v20 H fun v21 H =>
    W.call Tryz.prog (.func (.func 10) #[] #[]) #[v21] H fun v22 H =>
    W.extract 0 v22 H fun v23 H =>
    W.extract 1 v22 H fun v24 H =>
    W.getN 2 v20 H fun v25 H =>
    W.call Tryz.prog (.func (.func 11) #[] #[]) #[v25] H fun v26 H =>
    W.extract 0 v26 H fun v27 H =>
    W.extract 1 v26 H fun v28 H =>
    W.bin .neq v24 v28 H fun v29 H =>
    W.guarded v29 false (fun H k => k v23 H) H fun v30 H =>
    W.guarded v29 false (fun H k => k v27 H) H fun v31 H =>
    W.guarded v29 false (fun H k => W.call Tryz.prog (.func (.func 12) #[] #[]) #[v30, v31] H k) H fun v32 H =>
    W.guarded v29 false (fun H k => W.un .not v32 H k) H fun v33 H =>
    W.pick v29 (.bool true) v33 H fun v34 H =>
    W.cond v34 H
    (fun H => Q (.bool false) H)
    (fun H => W.call Tryz.prog (.func (.func 13) #[] #[]) #[code_0] H fun v35 H =>
     W.new [(.slice none 0 0), (.slice none 0 0)] 27 H fun v36 H =>
     W.putN 2 v36 v35 H fun _ H =>
     W.getN 2 v36 H fun v37 H =>
     W.call Tryz.prog (.func (.func 14) #[] #[]) #[v37] H fun v38 H =>
     W.extract 0 v38 H fun v39 H =>
     W.extract 1 v38 H fun v40 H =>
     W.getN 2 v36 H fun v41 H =>
     W.call Tryz.prog (.func (.func 15) #[] #[]) #[v41] H fun v42 H =>
     W.extract 0 v42 H fun v43 H =>
     W.extract 1 v42 H fun v44 H =>
     W.bin .neq v40 v44 H fun v45 H =>
     W.guarded v45 false (fun H k => k v39 H) H fun v46 H =>
     W.guarded v45 false (fun H k => k v43 H) H fun v47 H =>
     W.guarded v45 false (fun H k => W.bin .neq v46 v47 H k) H fun v48 H =>
     W.pick v45 (.bool true) v48 H fun v49 H =>
     W.cond v49 H
     (fun H => Q (.bool false) H)
     (fun H => W.call Tryz.prog (.func (.func 16) #[] #[]) #[code_0] H fun v50 H =>
      W.extract 0 v50 H fun v51 H =>
      W.extract 1 v50 H fun v52 H =>
      W.new [(.slice none 0 0), (.slice none 0 0)] 27 H fun v53 H =>
      W.putN 2 v53 v51 H fun _ H =>
      W.getN 2 v53 H fun v54 H =>
      W.call Tryz.prog (.func (.func 17) #[] #[]) #[v54, v52] H fun v55 H =>
      W.extract 0 v55 H fun v56 H =>
      W.extract 1 v55 H fun v57 H =>
      W.getN 2 v53 H fun v58 H =>
      W.call Tryz.prog (.func (.func 18) #[] #[]) #[v58, v52] H fun v59 H =>
      W.extract 0 v59 H fun v60 H =>
      W.extract 1 v59 H fun v61 H =>
      W.bin .neq v57 v61 H fun v62 H =>
      W.guarded v62 false (fun H k => k v56 H) H fun v63 H =>
      W.guarded v62 false (fun H k => k v60 H) H fun v64 H =>
      W.guarded v62 false (fun H k => W.call Tryz.prog (.func (.func 12) #[] #[]) #[v63, v64] H k) H fun v65 H =>
      W.guarded v62 false (fun H k => W.un .not v65 H k) H fun v66 H =>
      W.pick v62 (.bool true) v66 H fun v67 H =>
      W.cond v67 H
      (fun H => Q (.bool false) H)
      (fun H => W.bin .eql v57 (.int .i64 0) H fun v68 H =>
       W.cond v68 H
       (fun H => W.loop (S := St [25, 26]) (fun I1 s H => f3.l1 Q v53 v52 v56 v40 v36 v39 v24 v20 v23 v9 v8 v5 v4 I1 s.1 s.2.1 H) ((.int .i64 1), (.int .i64 0), ()) H)
       (fun H => f3.j1 Q v40 v36 v39 v24 v20 v23 v9 v8 v5 v4 H))))))
theorem f3.enter {Q : Post} {code_0 : Value} {H : Heap} (h : f3.w Q code_0 H) : Runs Tryz.prog 3 #[code_0] H Q :=
  fn_enter (ann := [(26, [25, 26])]) (by kernel_rfl) Tryz.func3 rfl (by kernel_rfl) h (by kernel_rfl)


theorem sum_pos : ∀ {l : List Int}, (∀ x ∈ l, 0 ≤ x) → 0 ≤ l.sum
  | [], _ => by simp
  | x :: l, h => by
    have h1 := h x (by simp)
    have h2 := sum_pos (l := l) fun y hy => h y (by simp [hy])
    simp only [List.sum_cons]
    omega

theorem take_sum {l : List Int} (h : ∀ x ∈ l, 0 ≤ x) (i : Nat) : 0 ≤ (l.take i).sum ∧ (l.take i).sum ≤ l.sum := by
  have h1 := sum_pos (l := l.take i) fun x hx => h x (List.mem_of_mem_take hx)
  have h2 := sum_pos (l := l.drop i) fun x hx => h x (List.mem_of_mem_drop hx)
  have h3 : l.sum = (l.take i).sum + (l.drop i).sum := by
    rw [← List.sum_append, List.take_append_drop]
  omega

theorem cn_facts {p : Prob} {k : Int} (h : (cnRes p k).2 = 0) : ∃ side : Nat, 2 * k + 1 = (side : Int) ∧ side ≤ 5 ∧ p.2.length ≤ 5 ∧ (cnRes p k).1.sum = ((side ^ p.2.length : Nat) : Int) ∧ ∀ x ∈ (cnRes p k).1, 0 ≤ x := by
  unfold cnRes at h ⊢
  by_cases hp : isProb p = true
  case neg => rw [if_neg hp] at h; cases h
  rw [if_pos hp] at h ⊢
  by_cases hk : inR 1 2 k = true
  case neg => rw [if_neg hk] at h; cases h
  rw [if_pos hk]
  have g := inR_iff.1 hk
  refine ⟨(2 * k + 1).toNat, by omega, by omega, (PB.of hp).n5, cnL_sum (Nat.le_refl _), fun x hx => ?_⟩
  obtain ⟨j, _, rfl⟩ := List.mem_map.1 hx
  exact cnH_nonneg _ _ _

theorem prob_mat {p : Prob} (h : isProb p = true) : isMat p.1 = true := by
  unfold isProb at h
  rw [Bool.and_eq_true, Bool.and_eq_true] at h
  exact h.1.1

theorem co_j3 {H0 H : Heap} {b5 : Nat} {u1 u2 : Value} {p : Prob} {s : Int} (hp : SmallP p) (h : Ab.Loc H0 [.box b5 [u1, u2], .data RProblem [u1, u2] p] H) :
    f3.j3 (fun v _ => v = .bool true) (.int .i64 (covRes p s).2) (.bool (covRes p s).1) (pt b5 0) (.int .i64 s) H := by
  unfold f3.j3
  refine Wi.neqC (fun hne => Wi.tru (Wi.not (by rw [cov_none hne]; rfl))) fun he => Wi.fls ?_
  obtain ⟨h1, h2⟩ := cov_mem he
  refine Wl.getA (b := b5) h rfl (Wi.call (fn10 (h.rd (cs := [u1, u2])) hp.w fun H v107 f => ?_))
  have h := h.add f
  simp only [gw]
  refine Wi.eqlC (fun _ => ?_) fun g => absurd h1 g
  simp only [gw]
  refine Wi.call (fn22 (h.rd (cs := [v107])) ?_)
  rw [h2]
  refine Wi.eqBool ?_
  rw [beq_self_eq_true]

theorem co_j2 {H0 H : Heap} {b5 b20 : Nat} {u1 u2 q1 q2 v23 : Value} {p q : Prob} {s : Int} (hp : SmallP p) (h : Ab.Loc H0 [.data RS [v23] (cvRes q).1, .box b20 [q1, q2], .data RProblem [q1, q2] q, .box b5 [u1, u2], .data RProblem [u1, u2] p] H) :
    f3.j2 (fun v _ => v = .bool true) (.int .i64 (cvRes q).2) (pt b20 0) v23 (.int .i64 (covRes p s).2) (.bool (covRes p s).1) (pt b5 0) (.int .i64 s) H := by
  unfold f3.j2
  refine Wi.eqlC (fun he => Wi.tru ?_) fun _ => Wi.fls (co_j3 hp h.tl.tl.tl)
  refine Wl.getA (b := b20) h rfl (Wi.call (fn21 (h.rd (cs := [q1, q2])) fun H v95 f => ?_))
  have h := h.add f
  simp only [gw]
  refine Wi.neqC (fun g => absurd he g) fun _ => ?_
  simp only [gw]
  refine Wi.call (fn12 (h.rd (cs := [v95])) (h.rd (cs := [v23])) ?_)
  rw [decide_eq_true rfl]
  simp only [gw]
  exact co_j3 hp h.tl.tl.tl.tl

theorem co_j1 {H0 H : Heap} {b5 b20 b36 : Nat} {u1 u2 q1 q2 r1 r2 v23 : Value} {p q r : Prob} {s : Int} (hp : SmallP p) (h : Ab.Loc H0 [.box b36 [r1, r2], .data RProblem [r1, r2] r, .data RS [v23] (cvRes q).1, .box b20 [q1, q2], .data RProblem [q1, q2] q, .box b5 [u1, u2], .data RProblem [u1, u2] p] H) :
    f3.j1 (fun v _ => v = .bool true) (.int .i64 (degRes r).2) (pt b36 0) (.int .i64 (degRes r).1) (.int .i64 (cvRes q).2) (pt b20 0) v23 (.int .i64 (covRes p s).2) (.bool (covRes p s).1) (pt b5 0) (.int .i64 s) H := by
  unfold f3.j1
  refine Wi.eqlC (fun he => Wi.tru ?_) fun _ => Wi.fls (co_j2 (q1 := q1) (q2 := q2) (u1 := u1) (u2 := u2) hp h.tl.tl)
  have hpr : isProb r = true := by
    unfold degRes at he
    by_cases g : isProb r = true
    · exact g
    · rw [if_neg g] at he; cases he
  have hm : Has RSS H [r1] r.1 := by
    obtain ⟨w1, w2, e, g1, g2⟩ := hasProb (h.rd (cs := [r1, r2]) (r := RProblem))
    simp only [List.cons.injEq, and_true] at e
    rw [e.1]
    exact g1
  have hlen : r.1.length = r.2.length := (PB.of hpr).sq.1
  refine Wi.fieldAddr (Wl.get (b := b36) (o := 0) h rfl (Wi.call (fnP20 hm (prob_mat hpr) fun H l => ?_)))
  have h := h.to l
  simp only [gw]
  refine Wi.neqC (fun g => absurd rfl g) fun _ => ?_
  cases hk : pB r.1 with
  | false =>
    simp only [gw]
    exact co_j2 (q1 := q1) (q2 := q2) (u1 := u1) (u2 := u2) hp h.tl.tl
  | true =>
    simp only [gw]
    have hP := pB_iff.1 hk
    rw [hlen] at hP
    refine Wi.neqC (fun g => absurd (deg_one he hP) g) fun _ => ?_
    simp only [gw]
    exact co_j2 (q1 := q1) (q2 := q2) (u1 := u1) (u2 := u2) hp h.tl.tl

theorem law3 {H0 : Heap} {bs0 : List Nat} {v0 : Value} {x0 : List Int} (hr0 : RBytes.rel H0 bs0 [v0] x0) : Runs Tryz.prog 3 #[v0] H0 (fun v _ => v = .bool true) := by
  have hc : Has RBytes H0 [v0] x0 := ⟨bs0, hr0⟩
  refine f3.enter ?_
  unfold f3.w
  refine Wi.call (f5.enter (Wl.lenH hc ?_))
  generalize (4096 : Int) = top
  refine Wi.gtrC (fun _ => Wi.tru rfl) fun _ => Wi.fls ?_
  -- covered
  refine Wi.call (fn6 hc fun H u1 u2 p s f hp hI => ?_)
  have h := (Loc.start H0).add f
  have kp := (h.rd (cs := [u1, u2]) (r := RProblem)).cell
  simp only [gw]
  refine Wl.new h fun H b5 h => Wl.putA h rfl rfl kp fun H h => Wl.getA (b := b5) h rfl (Wi.call (fn7 (h.rd (cs := [u1, u2])) hI hp.w fun H l => ?_))
  have h := h.to l
  simp only [gw]
  refine Wl.getA (b := b5) h rfl (Wi.call (fn8 (h.rd (cs := [u1, u2])) hI hp.w fun H l => ?_))
  have h := h.to l
  simp only [gw]
  refine Wi.neqC (fun g => absurd rfl g) fun _ => ?_
  simp only [gw]
  refine Wi.neqBool ?_
  rw [beq_self_eq_true]
  simp only [gw, Bool.not_true]
  -- the list
  refine Wi.call (fn9 (hc.le h.le) fun H q1 q2 q f hq => ?_)
  have h := h.add f
  have kq := (h.rd (cs := [q1, q2]) (r := RProblem)).cell
  refine Wl.new h fun H b20 h => Wl.putA h rfl rfl kq fun H h => Wl.getA (b := b20) h rfl (Wi.call (fn10 (h.rd (cs := [q1, q2])) hq.w fun H v23 f => ?_))
  have h := h.add f
  simp only [gw]
  refine Wl.getA (b := b20) h rfl (Wi.call (fn11 (h.rd (cs := [q1, q2])) hq.w fun H v27 f => ?_))
  have h := h.add f
  simp only [gw]
  refine Wi.neqC (fun g => absurd rfl g) fun _ => ?_
  simp only [gw]
  refine Wi.call (fn12 (h.rd (cs := [v23])) (h.rd (cs := [v27])) ?_)
  rw [decide_eq_true rfl]
  simp only [gw]
  have h := h.tl
  -- the degree
  refine Wi.call (fn13 (hc.le h.le) fun H r1 r2 r f hr => ?_)
  have h := h.add f
  have kr := (h.rd (cs := [r1, r2]) (r := RProblem)).cell
  refine Wl.new h fun H b36 h => Wl.putA h rfl rfl kr fun H h => Wl.getA (b := b36) h rfl (Wi.call (fn14 (h.rd (cs := [r1, r2])) hr.w fun H l => ?_))
  have h := h.to l
  simp only [gw]
  refine Wl.getA (b := b36) h rfl (Wi.call (fn15 (h.rd (cs := [r1, r2])) hr.w fun H l => ?_))
  have h := h.to l
  simp only [gw]
  refine Wi.neqC (fun g => absurd rfl g) fun _ => ?_
  simp only [gw]
  refine Wi.neqC (fun g => absurd rfl g) fun _ => ?_
  simp only [gw]
  have h : Ab.Loc H0 [.box b36 [r1, r2], .data RProblem [r1, r2] r, .data RS [v23] (cvRes q).1, .box b20 [q1, q2], .data RProblem [q1, q2] q, .box b5 [u1, u2], .data RProblem [u1, u2] p] _ := h
  -- the numbers
  refine Wi.call (fn16 (hc.le h.le) fun H w1 w2 u k f hu hIk => ?_)
  have h := h.add f
  have ku := (h.rd (cs := [w1, w2]) (r := RProblem)).cell
  simp only [gw]
  refine Wl.new h fun H b53 h => Wl.putA h rfl rfl ku fun H h => Wl.getA (b := b53) h rfl (Wi.call (fn17 (h.rd (cs := [w1, w2])) hIk hu.w fun H v56 f => ?_))
  have h := h.add f
  simp only [gw]
  refine Wl.getA (b := b53) h rfl (Wi.call (fn18 (h.rd (cs := [w1, w2])) hIk hu.w fun H v60 f => ?_))
  have h := h.add f
  simp only [gw]
  refine Wi.neqC (fun g => absurd rfl g) fun _ => ?_
  simp only [gw]
  refine Wi.call (fn12 (h.rd (cs := [v56])) (h.rd (cs := [v60])) ?_)
  rw [decide_eq_true rfl]
  simp only [gw]
  have h := h.tl
  refine Wi.eqlC (fun he => Wi.tru ?_) fun _ => Wi.fls (co_j1 (q1 := q1) (q2 := q2) (u1 := u1) (u2 := u2) (r1 := r1) (r2 := r2) hp h.tl.tl.tl)
  obtain ⟨side, e1, e2, hn, hsum, hpos⟩ := cn_facts he
  have hpw : ∀ i, i ≤ 5 → side ^ i ≤ 3125 := fun i hi => Nat.le_trans (Nat.pow_le_pow_left e2 i) (Nat.pow_le_pow_right (n := 5) (j := 5) (by decide) hi)
  have hl : Has RS H [w2] u.2 := by
    obtain ⟨x1, x2, e, g1, g2⟩ := hasProb (h.rd (cs := [w1, w2]) (r := RProblem))
    simp only [List.cons.injEq, and_true] at e
    rw [e.2]
    exact g2
  have h : Ab.Loc H0 [.data RS [v56] (cnRes u k).1, .box b53 [w1, w2], .data RProblem [w1, w2] u, .box b36 [r1, r2], .data RProblem [r1, r2] r, .data RS [v23] (cvRes q).1, .box b20 [q1, q2], .data RProblem [q1, q2] q, .box b5 [u1, u2], .data RProblem [u1, u2] p] _ := h
  refine W.for_rule u.2.length (fun i st H => st = (.int .i64 ((side ^ i : Nat) : Int), .int .i64 (i : Nat), ()) ∧ Has RS H [w2] u.2 ∧ Ab.Loc H0 [.data RS [v56] (cnRes u k).1, .box b53 [w1, w2], .data RProblem [w1, w2] u, .box b36 [r1, r2], .data RProblem [r1, r2] r, .data RS [v23] (cvRes q).1, .box b20 [q1, q2], .data RProblem [q1, q2] q, .box b5 [u1, u2], .data RProblem [u1, u2] p] H) ⟨by rw [Nat.pow_zero]; rfl, hl, h⟩ ?_
  rintro i st H J hi ⟨rfl, hl, h⟩ hJ
  refine Wi.fieldAddr (Wl.get (b := b53) (o := 1) h rfl (Wl.lenH hl (Wi.lssC (fun hlt => Wi.tru ?_) fun hge => Wi.fls ?_)))
  · have hin : i < u.2.length := by omega
    have hb := hpw (i + 1) (by omega)
    have e : ((side ^ i : Nat) : Int) * (side : Int) = ((side ^ (i + 1) : Nat) : Int) := by rw [Nat.pow_succ, Int.natCast_mul]
    refine Wi.mul (by unfold I64; omega) (Wi.add (by unfold I64; omega) ?_)
    rw [e1]
    refine Wi.mul (by rw [e]; unfold I64; omega) ?_
    rw [e]
    exact Wi.add (by unfold I64; omega) (hJ _ _ hin ⟨rfl, hl, h⟩)
  · have : i = u.2.length := by omega
    subst this
    have hb := hpw _ hn
    refine Wi.call (fn19 (h.rd (cs := [v56])) (fun i _ => ?_) ?_)
    · have := take_sum hpos i
      rw [hsum] at this
      unfold I64
      omega
    · rw [hsum]
      refine Wi.neqC (fun g => absurd rfl g) fun _ => Wi.fls ?_
      exact co_j1 (q1 := q1) (q2 := q2) (u1 := u1) (u2 := u2) (r1 := r1) (r2 := r2) hp h.tl.tl.tl

end Go.Proofs.YthfcodelpebjcaaGreat
