/- The law FnPromiseOfAll answers true on any abstract heap that holds its problem. No condition. -/
import Derived.Test.YtdmgomeogedjgaaGreatSQ4
import Derived.Test.YtdmgomeogedjgaaGreatSPV
import Derived.Test.YtdmgomeogedjgaaGreatLKI
import Derived.Test.YtdmgomeogedjgaaGreatGRQ
namespace Go.Proofs.YtdmgomeogedjgaaGreat
open Go.Ab

/- loop.example/g01343/laws.FnPromiseOfAll -/
def f4.l2 (Q : Post) (v49 : Value) (v50 : Value) (i_11 : Value) (I1 : St [11] → Heap → Prop) (I2 : St [16] → Heap → Prop) (k_16 : Value) (H : Heap) : Prop :=
  W.bin .eql v49 (.int .i64 0) H fun v59 H =>
  W.guarded v59 true (fun H k => k k_16 H) H fun v60 H =>
  W.guarded v59 true (fun H k => W.fieldAddr 2 v50 H k) H fun v61 H =>
  W.guarded v59 true (fun H k => W.get v61 H k) H fun v62 H =>
  W.guarded v59 true (fun H k => W.len v62 H k) H fun v63 H =>
  W.guarded v59 true (fun H k => W.bin .lss v60 v63 H k) H fun v64 H =>
  W.pick v59 v64 (.bool false) H fun v65 H =>
  W.cond v65 H
  (fun H => W.fieldAddr 2 v50 H fun v66 H =>
   W.get v66 H fun v67 H =>
   W.indexAddr 1 v67 k_16 H fun v68 H =>
   W.get v68 H fun v69 H =>
   W.bin .lss v69 (.int .i64 0) H fun v70 H =>
   W.cond v70 H
   (fun H => Q (.bool false) H)
   (fun H => W.bin .add k_16 (.int .i64 1) H fun v71 H =>
    I2 (v71, ()) H))
  (fun H => W.bin .add i_11 (.int .i64 1) H fun v72 H =>
   I1 (v72, ()) H)
def f4.l1 (Q : Post) (v21 : Value) (v1 : Value) (v14 : Value) (v13 : Value) (I1 : St [11] → Heap → Prop) (i_11 : Value) (H : Heap) : Prop :=
  W.len v21 H fun v42 H =>
  W.bin .lss i_11 v42 H fun v43 H =>
  W.cond v43 H
  (fun H => W.getN 2 v1 H fun v44 H =>
   W.indexAddr 1 v21 i_11 H fun v45 H =>
   W.get v45 H fun v46 H =>
   W.callQ Tryz.prog (.func (.func 16) #[] #[]) #[v44, v46] H fun v47 H =>
   W.extract 0 v47 H fun v48 H =>
   W.extract 1 v47 H fun v49 H =>
   W.new [(.int .i64 0), (.slice none 0 0), (.slice none 0 0)] 45 H fun v50 H =>
   W.putN 3 v50 v48 H fun _ H =>
   W.getN 2 v1 H fun v51 H =>
   W.indexAddr 1 v21 i_11 H fun v52 H =>
   W.get v52 H fun v53 H =>
   W.callQ Tryz.prog (.func (.func 19) #[] #[]) #[v51, v53] H fun v54 H =>
   W.extract 0 v54 H fun v55 H =>
   W.extract 1 v54 H fun v56 H =>
   W.new [(.int .i64 0), (.slice none 0 0), (.slice none 0 0)] 45 H fun v57 H =>
   W.putN 3 v57 v55 H fun _ H =>
   W.bin .neq v49 v56 H fun v58 H =>
   W.cond v58 H
   (fun H => Q (.bool false) H)
   (fun H => W.loop (S := St [16]) (fun I2 s H => f4.l2 Q v49 v50 i_11 I1 I2 s.1 H) ((.int .i64 0), ()) H))
  (fun H => W.fieldAddr 0 v1 H fun v73 H =>
   W.get v73 H fun v74 H =>
   W.call Tryz.prog (.func (.func 11) #[] #[]) #[v74, (.int .i64 0)] H fun v75 H =>
   W.extract 0 v75 H fun v76 H =>
   W.extract 1 v75 H fun v77 H =>
   W.fieldAddr 0 v1 H fun v78 H =>
   W.get v78 H fun v79 H =>
   W.call Tryz.prog (.func (.func 20) #[] #[]) #[v79, (.int .i64 0)] H fun v80 H =>
   W.extract 0 v80 H fun v81 H =>
   W.extract 1 v80 H fun v82 H =>
   W.bin .neq v77 v82 H fun v83 H =>
   W.guarded v83 false (fun H k => k v76 H) H fun v84 H =>
   W.guarded v83 false (fun H k => k v81 H) H fun v85 H =>
   W.guarded v83 false (fun H k => W.eqBool .neq v84 v85 H k) H fun v86 H =>
   W.pick v83 (.bool true) v86 H fun v87 H =>
   W.cond v87 H
   (fun H => Q (.bool false) H)
   (fun H => W.bin .neq v77 (.int .i64 0) H fun v88 H =>
    W.guarded v88 false (fun H k => k v76 H) H fun v89 H =>
    W.guarded v88 false (fun H k => W.un .not v89 H k) H fun v90 H =>
    W.pick v88 (.bool true) v90 H fun v91 H =>
    W.guarded v91 false (fun H k => k v14 H) H fun v92 H =>
    W.guarded v91 false (fun H k => W.bin .neq v92 (.int .i64 0) H k) H fun v93 H =>
    W.pick v91 (.bool true) v93 H fun v94 H =>
    W.cond v94 H
    (fun H => Q (.bool true) H)
    (fun H => W.getN 2 v1 H fun v95 H =>
     W.call Tryz.prog (.func (.func 12) #[] #[]) #[v95, (.int .i64 0)] H fun v96 H =>
     W.extract 0 v96 H fun v97 H =>
     W.extract 1 v96 H fun v98 H =>
     W.getN 2 v1 H fun v99 H =>
     W.call Tryz.prog (.func (.func 13) #[] #[]) #[v99, (.int .i64 0)] H fun v100 H =>
     W.extract 0 v100 H fun v101 H =>
     W.extract 1 v100 H fun v102 H =>
     W.len v13 H fun v103 H =>
     W.bin .eql v103 (.int .i64 1) H fun v104 H =>
     W.guarded v104 true (fun H k => k v98 H) H fun v105 H =>
     W.guarded v104 true (fun H k => k v102 H) H fun v106 H =>
     W.guarded v104 true (fun H k => W.bin .eql v105 v106 H k) H fun v107 H =>
     W.pick v104 v107 (.bool false) H fun v108 H =>
     W.guarded v108 true (fun H k => k v98 H) H fun v109 H =>
     W.guarded v108 true (fun H k => W.bin .neq v109 (.int .i64 0) H k) H fun v110 H =>
     W.guarded v108 true (fun H k => k v110 H) H fun v111 H =>
     W.guarded v111 false (fun H k => k v97 H) H fun v112 H =>
     W.guarded v111 false (fun H k => k v13 H) H fun v113 H =>
     W.guarded v111 false (fun H k => W.indexAddr 1 v113 (.int .i64 0) H k) H fun v114 H =>
     W.guarded v111 false (fun H k => W.get v114 H k) H fun v115 H =>
     W.guarded v111 false (fun H k => W.call Tryz.prog (.func (.func 14) #[] #[]) #[v112, v115] H k) H fun v116 H =>
     W.guarded v108 true (fun H k => W.pick v111 (.bool true) v116 H k) H fun v117 H =>
     W.pick v108 v117 (.bool false) H fun v118 H =>
     Q v118 H)))
def f4.w (Q : Post) (p_0 : Value) (H : Heap) : Prop :=
  W.box p_0 31 H fun v1 H =>
  W.fieldAddr 0 v1 H fun v2 H =>
  W.get v2 H fun v3 H =>
  W.len v3 H fun v4 H =>
  W.bin .gtr v4 (.int .i64 1000) H fun v5 H =>
  W.guarded v5 false (fun H k => W.fieldAddr 1 v1 H k) H fun v6 H =>
  W.guarded v5 false (fun H k => W.get v6 H k) H fun v7 H =>
  W.guarded v5 false (fun H k => W.len v7 H k) H fun v8 H =>
  W.guarded v5 false (fun H k => W.bin .gtr v8 (.int .i64 1000) H k) H fun v9 H =>
  W.pick v5 (.bool true) v9 H fun v10 H =>
  W.cond v10 H
  (fun H => Q (.bool true) H)
  (fun H => W.getN 2 v1 H fun v11 H =>
   W.call Tryz.prog (.func (.func 8) #[] #[]) #[v11] H fun v12 H =>
   W.extract 0 v12 H fun v13 H =>
   W.extract 1 v12 H fun v14 H =>
   W.getN 2 v1 H fun v15 H =>
   W.call Tryz.prog (.func (.func 9) #[] #[]) #[v15] H fun v16 H =>
   W.extract 0 v16 H fun v17 H =>
   W.extract 1 v16 H fun v18 H =>
   W.getN 2 v1 H fun v19 H =>
   W.call Tryz.prog (.func (.func 15) #[] #[]) #[v19] H fun v20 H =>
   W.extract 0 v20 H fun v21 H =>
   W.extract 1 v20 H fun v22 H =>
   W.getN 2 v1 H fun v23 H =>
   W.call Tryz.prog (.func (.func 17) #[] #[]) #[v23] H fun v24 H =>
   W.extract 0 v24 H fun v25 H =>
   W.extract 1 v24 H fun v26 H =>
   W.bin .neq v14 v18 H fun v27 H =>
   W.guarded v27 false (fun H k => k v13 H) H fun v28 H =>
   W.guarded v27 false (fun H k => k v17 H) H fun v29 H =>
   W.guarded v27 false (fun H k => W.call Tryz.prog (.func (.func 10) #[] #[]) #[v28, v29] H k) H fun v30 H =>
   W.guarded v27 false (fun H k => W.un .not v30 H k) H fun v31 H =>
   W.pick v27 (.bool true) v31 H fun v32 H =>
   W.guarded v32 false (fun H k => k v22 H) H fun v33 H =>
   W.guarded v32 false (fun H k => k v26 H) H fun v34 H =>
   W.guarded v32 false (fun H k => W.bin .neq v33 v34 H k) H fun v35 H =>
   W.pick v32 (.bool true) v35 H fun v36 H =>
   W.guarded v36 false (fun H k => k v21 H) H fun v37 H =>
   W.guarded v36 false (fun H k => k v25 H) H fun v38 H =>
   W.guarded v36 false (fun H k => W.call Tryz.prog (.func (.func 18) #[] #[]) #[v37, v38] H k) H fun v39 H =>
   W.guarded v36 false (fun H k => W.un .not v39 H k) H fun v40 H =>
   W.pick v36 (.bool true) v40 H fun v41 H =>
   W.cond v41 H
   (fun H => Q (.bool false) H)
   (fun H => W.loop (S := St [11]) (fun I1 s H => f4.l1 Q v21 v1 v14 v13 I1 s.1 H) ((.int .i64 0), ()) H))
theorem f4.enter {Q : Post} {p_0 : Value} {H : Heap} (h : f4.w Q p_0 H) : Runs Tryz.prog 4 #[p_0] H Q :=
  fn_enter (ann := [(10, [11]), (17, [16])]) (by kernel_rfl) Tryz.func4 rfl (by kernel_rfl) h (by kernel_rfl)


abbrev qTq : Post := fun v _ => v = .bool true

theorem prob_mat {p : Prob} (hp : isProb p = true) : isMat p.1 = true := by
  unfold isProb at hp
  rw [Bool.and_eq_true, Bool.and_eq_true] at hp
  exact hp.1.1

theorem prob_w {p : Prob} (hp : isProb p = true) : wProblem p ≤ 1048576 := by
  obtain ⟨h1, h2, h3⟩ := mat_bound (prob_mat hp)
  have hql := (PB.of hp).n5
  have := szl_le (w := List.length) (c := 5) p.1 fun r hr => by have := h1.2 r hr; omega
  simp only [szp, wl]
  omega

/-- A P matrix: one solution. -/
theorem one_sol {p : Prob} {ys : List (List Frac)} (hp : isProb p = true) (hP : pB p.1 = true) (hys : SolsOf p.2.length p ys) : ∃ Z, ys = [Z] ∧ srRes p 0 = (Z, 0) := by
  have hpb := PB.of hp
  have hl : p.1.length = p.2.length := hpb.sq.1
  have hP := pB_iff.1 hP
  rw [hl] at hP
  obtain ⟨Z, s0, hs0, hc0, hall, hz, hsr⟩ := top_facts hp hP
  have hcov : ∀ s ∈ covN p.2.length p, solF p.2.length p s = Z := fun s hs => by
    obtain ⟨g1, g2⟩ := List.mem_filter.1 hs
    exact hall s (by simpa using g1) g2
  have h0 : s0 ∈ covN p.2.length p := List.mem_filter.2 ⟨by simpa using hs0, hc0⟩
  have hone : SolsOf p.2.length p [Z] := ⟨List.pairwise_singleton _ _, fun z => by
    rw [List.mem_singleton]
    constructor
    · intro e
      exact ⟨s0, h0, by rw [e, hcov s0 h0]⟩
    · rintro ⟨s, hs, e⟩
      rw [e, hcov s hs]⟩
  exact ⟨Z, hys.uniq hone hpb, hsr⟩

/-- The last tests. -/
theorem pr_end {H0 H : Heap} {u1 u2 v13 : Value} {b : Nat} {p : Prob} {ys : List (List Frac)} {c : Int} (h : Ab.Loc H0 [.box b [u1, u2], .lent RProblem [u1, u2] p, .lent RSS [u1] p.1] H) (hv : Has (Rd.slice RFS) H [v13] ys) (hc : c = 0 → isProb p = true ∧ SolsOf p.2.length p ys) :
    W.fieldAddr 0 (pt b 0) H fun v73 H => W.get v73 H fun v74 H => W.call Tryz.prog (.func (.func 11) #[] #[]) #[v74, .int .i64 0] H fun v75 H => W.extract 0 v75 H fun v76 H => W.extract 1 v75 H fun v77 H => W.fieldAddr 0 (pt b 0) H fun v78 H => W.get v78 H fun v79 H => W.call Tryz.prog (.func (.func 20) #[] #[]) #[v79, .int .i64 0] H fun v80 H => W.extract 0 v80 H fun v81 H => W.extract 1 v80 H fun v82 H => W.bin .neq v77 v82 H fun v83 H =>
    W.guarded v83 false (fun H k => k v76 H) H fun v84 H => W.guarded v83 false (fun H k => k v81 H) H fun v85 H => W.guarded v83 false (fun H k => W.eqBool .neq v84 v85 H k) H fun v86 H => W.pick v83 (.bool true) v86 H fun v87 H => W.cond v87 H (fun H => qTq (.bool false) H) fun H =>
    W.bin .neq v77 (.int .i64 0) H fun v88 H => W.guarded v88 false (fun H k => k v76 H) H fun v89 H => W.guarded v88 false (fun H k => W.un .not v89 H k) H fun v90 H => W.pick v88 (.bool true) v90 H fun v91 H => W.guarded v91 false (fun H k => k (.int .i64 c) H) H fun v92 H => W.guarded v91 false (fun H k => W.bin .neq v92 (.int .i64 0) H k) H fun v93 H => W.pick v91 (.bool true) v93 H fun v94 H => W.cond v94 H (fun H => qTq (.bool true) H) fun H =>
    W.getN 2 (pt b 0) H fun v95 H => W.call Tryz.prog (.func (.func 12) #[] #[]) #[v95, .int .i64 0] H fun v96 H => W.extract 0 v96 H fun v97 H => W.extract 1 v96 H fun v98 H => W.getN 2 (pt b 0) H fun v99 H => W.call Tryz.prog (.func (.func 13) #[] #[]) #[v99, .int .i64 0] H fun v100 H => W.extract 0 v100 H fun v101 H => W.extract 1 v100 H fun v102 H => W.len v13 H fun v103 H => W.bin .eql v103 (.int .i64 1) H fun v104 H =>
    W.guarded v104 true (fun H k => k v98 H) H fun v105 H => W.guarded v104 true (fun H k => k v102 H) H fun v106 H => W.guarded v104 true (fun H k => W.bin .eql v105 v106 H k) H fun v107 H => W.pick v104 v107 (.bool false) H fun v108 H =>
    W.guarded v108 true (fun H k => k v98 H) H fun v109 H => W.guarded v108 true (fun H k => W.bin .neq v109 (.int .i64 0) H k) H fun v110 H => W.guarded v108 true (fun H k => k v110 H) H fun v111 H =>
    W.guarded v111 false (fun H k => k v97 H) H fun v112 H => W.guarded v111 false (fun H k => k v13 H) H fun v113 H => W.guarded v111 false (fun H k => W.indexAddr 1 v113 (.int .i64 0) H k) H fun v114 H => W.guarded v111 false (fun H k => W.get v114 H k) H fun v115 H => W.guarded v111 false (fun H k => W.call Tryz.prog (.func (.func 14) #[] #[]) #[v112, v115] H k) H fun v116 H =>
    W.guarded v108 true (fun H k => W.pick v111 (.bool true) v116 H k) H fun v117 H => W.pick v108 v117 (.bool false) H fun v118 H => qTq v118 H := by
  refine Wi.fieldAddr0 (Wl.get (b := b) h rfl (Wi.call (fnQ11 (h.rd (cs := [u1]) (r := RSS) (x := p.1)) fun H1 l => ?_)))
  have h := h.to l
  have hv := hv.le l
  simp only [gw]
  refine Wi.fieldAddr0 (Wl.get (b := b) h rfl (Wi.call (fnQ20 (h.rd (cs := [u1]) (r := RSS) (x := p.1)) fun H1 l => ?_)))
  have h := h.to l
  have hv := hv.le l
  simp only [gw]
  refine Wi.neqC (fun q => absurd rfl q) fun _ => ?_
  simp only [gw]
  refine Wi.neqBool ?_
  rw [beq_self_eq_true]
  simp only [gw, Bool.not_true]
  refine Wi.neqC (fun _ => ?_) fun hk0 => ?_
  · simp only [gw]
  simp only [gw]
  cases hkb : (ikRes p.1).1 with
  | false =>
    simp only [gw]
  | true =>
  simp only [gw]
  refine Wi.neqC (fun _ => ?_) fun hc0 => ?_
  · simp only [gw]
  simp only [gw]
  have hc0 : c = 0 := by omega
  obtain ⟨hp, hys⟩ := hc hc0
  have hP : pB p.1 = true := by
    have e : ikRes p.1 = (pB p.1, 0) := if_pos (prob_mat hp)
    rw [e] at hkb
    exact hkb
  obtain ⟨Z, rfl, hsr⟩ := one_sol hp hP hys
  refine Wl.getA (b := b) h rfl (Wi.call (fn12 (h.rd (cs := [u1, u2]) (r := RProblem) (x := p)) (by unfold I64; omega) (prob_w hp) fun H1 v97 f => ?_))
  have h := h.add f
  have hv := hv.le f.le
  rw [hsr] at h ⊢
  simp only [gw]
  refine Wl.getA (b := b) h rfl (Wi.call (fn13 (h.rd (cs := [u1, u2]) (r := RProblem) (x := p)) (by unfold I64; omega) (prob_w hp) fun H1 v101 f => ?_))
  have h := h.add f
  have hv := hv.le f.le
  rw [hsr] at h ⊢
  simp only [gw]
  refine Wl.lenH hv (Wi.eqlC (fun _ => ?_) fun q => absurd rfl q)
  simp only [gw]
  refine Wi.eqlC (fun _ => ?_) fun q => absurd rfl q
  simp only [gw]
  refine Wi.neqC (fun q => absurd rfl q) fun _ => ?_
  simp only [gw]
  refine Wl.at1H rfl hv (i := 0) (by simp) fun u hu => ?_
  refine Wi.call (fn14 (h.rd (cs := [v97]) (r := RFS) (x := Z)) hu ?_)
  rw [List.getElem_cons_zero, decide_eq_true rfl]

theorem law4 {H0 : Heap} {bs0 : List Nat} {cs0 : List Value} {p : Prob} (hr0 : RProblem.rel H0 bs0 cs0 p) : Runs Tryz.prog 4 #[.agg cs0.toArray] H0 (fun v _ => v = .bool true) := by
  obtain ⟨u1, u2, rfl, r1, r2⟩ := hasProb ⟨bs0, hr0⟩
  have h := (((Loc.start H0).lent r2).lent r1).lent ⟨bs0, hr0⟩
  refine f4.enter ?_
  unfold f4.w
  refine Wl.box (cs := [u1, u2]) h fun H b h => Wi.fieldAddr0 (Wl.get (b := b) h rfl (Wl.len (v := u1) (xs := p.1) h ?_))
  generalize (1000 : Int) = top
  refine Wi.gtrC (fun _ => ?_) fun _ => ?_
  · simp only [gw]
  simp only [gw]
  refine Wi.fieldAddr (Wl.get (b := b) (o := 1) h rfl (Wl.len (v := u2) (xs := p.2) h (Wi.gtrC (fun _ => ?_) fun _ => ?_)))
  · simp only [gw]
  simp only [gw]
  have h : Ab.Loc H0 [.box b [u1, u2], .lent RProblem [u1, u2] p, .lent RSS [u1] p.1] H := h.first 3
  -- the covers
  have cover : ∀ (H : Heap) (v13 v17 : Value) (c : Int) (ys : List (List Frac)), Ab.Loc H0 [.box b [u1, u2], .lent RProblem [u1, u2] p, .lent RSS [u1] p.1] H → Has (Rd.slice RFS) H [v13] ys → Has (Rd.slice RFS) H [v17] ys → (c = 0 → isProb p = true ∧ SolsOf p.2.length p ys) →
      W.getN 2 (pt b 0) H fun v19 H => W.call Tryz.prog (.func (.func 15) #[] #[]) #[v19] H fun v20 H => W.extract 0 v20 H fun v21 H => W.extract 1 v20 H fun v22 H => W.getN 2 (pt b 0) H fun v23 H => W.call Tryz.prog (.func (.func 17) #[] #[]) #[v23] H fun v24 H => W.extract 0 v24 H fun v25 H => W.extract 1 v24 H fun v26 H => W.bin .neq (.int .i64 c) (.int .i64 c) H fun v27 H =>
      W.guarded v27 false (fun H k => k v13 H) H fun v28 H => W.guarded v27 false (fun H k => k v17 H) H fun v29 H => W.guarded v27 false (fun H k => W.call Tryz.prog (.func (.func 10) #[] #[]) #[v28, v29] H k) H fun v30 H => W.guarded v27 false (fun H k => W.un .not v30 H k) H fun v31 H => W.pick v27 (.bool true) v31 H fun v32 H =>
      W.guarded v32 false (fun H k => k v22 H) H fun v33 H => W.guarded v32 false (fun H k => k v26 H) H fun v34 H => W.guarded v32 false (fun H k => W.bin .neq v33 v34 H k) H fun v35 H => W.pick v32 (.bool true) v35 H fun v36 H =>
      W.guarded v36 false (fun H k => k v21 H) H fun v37 H => W.guarded v36 false (fun H k => k v25 H) H fun v38 H => W.guarded v36 false (fun H k => W.call Tryz.prog (.func (.func 18) #[] #[]) #[v37, v38] H k) H fun v39 H => W.guarded v36 false (fun H k => W.un .not v39 H k) H fun v40 H => W.pick v36 (.bool true) v40 H fun v41 H => W.cond v41 H (fun H => qTq (.bool false) H) fun H =>
      W.loop (S := St [11]) (fun I1 s H => f4.l1 qTq v21 (pt b 0) (.int .i64 c) v13 I1 s.1 H) ((.int .i64 0), ()) H := fun H v13 v17 c ys h hv hv2 hc => by
    refine Wl.getA (b := b) h rfl (Wi.call (fnU15 (h.rd (cs := [u1, u2]) (r := RProblem) (x := p)) fun H1 v21 f => ?_))
    have h := h.add f
    have hv := hv.le f.le
    have hv2 := hv2.le f.le
    simp only [gw]
    refine Wl.getA (b := b) h rfl (Wi.call (fnU17 (h.rd (cs := [u1, u2]) (r := RProblem) (x := p)) fun H1 v25 f => ?_))
    have h := h.add f
    have hv := hv.le f.le
    have hv2 := hv2.le f.le
    simp only [gw]
    refine Wi.neqC (fun q => absurd rfl q) fun _ => ?_
    simp only [gw]
    refine Wi.call (fn10 hv hv2 ?_)
    simp only [gw]
    refine Wi.neqC (fun q => absurd rfl q) fun _ => ?_
    simp only [gw]
    refine Wi.call (fn18 (h.rd (cs := [v21]) (r := RS) (x := (cvRes p).1)) (h.rd (cs := [v25]) (r := RS) (x := (cvRes p).1)) ?_)
    rw [decide_eq_true rfl]
    simp only [gw]
    have h : Ab.Loc H0 [.data RS [v21] (cvRes p).1, .box b [u1, u2], .lent RProblem [u1, u2] p, .lent RSS [u1] p.1] H1 := h.tl
    have hsm := (h.rd (cs := [v21]) (r := RS) (x := (cvRes p).1)).small
    refine W.for_rule (cvRes p).1.length (fun i st H => st = (.int .i64 (i : Nat), ()) ∧ Ab.Loc H0 [.data RS [v21] (cvRes p).1, .box b [u1, u2], .lent RProblem [u1, u2] p, .lent RSS [u1] p.1] H ∧ Has (Rd.slice RFS) H [v13] ys) ⟨rfl, h, hv⟩ ?_
    rintro i st H J hi ⟨rfl, h, hv⟩ hJ
    unfold f4.l1
    refine Wl.lenH (h.rd (cs := [v21]) (r := RS) (x := (cvRes p).1)) (Wi.lssC (fun hlt => Wi.tru ?_) fun hge => Wi.fls (pr_end h.tl hv hc))
    have hil : i < (cvRes p).1.length := by omega
    have hp : isProb p = true := by
      cases hp : isProb p with
      | true => rfl
      | false =>
        have e : cvRes p = ([], 1) := if_neg (by rw [hp]; decide)
        rw [e] at hil
        simp at hil
    have hpb := PB.of hp
    have ec : (cvRes p).1 = (covN p.2.length p).map fun (s : Nat) => (s : Int) := by
      have e : cvRes p = (covL p.2.length p, 0) := if_pos hp
      rw [e, covL_map]
    rw [ec] at h hil
    have hic : i < (covN p.2.length p).length := by simpa using hil
    obtain ⟨g1, g2, g3⟩ := covN_ok2 (List.getElem_mem hic)
    refine Wl.getA (b := b) h rfl (Wl.atInt (v := v21) (xs := (covN p.2.length p).map fun (s : Nat) => (s : Int)) (i := i) h hil fun _ => ?_)
    rw [List.getElem_map]
    refine Wi.callQ (fn16 (h.rd (cs := [u1, u2]) (r := RProblem) (x := p)) hp g1 g2 fun H2 d w1 w2 rows f hd => ⟨f.le, ?_⟩)
    have h := h.add2 (c1 := [w1]) (c2 := [w2]) rfl f
    have hv := hv.le f.le
    have k1 := (h.rd (cs := [w1]) (r := RSS) (x := rows)).cell1
    have k2 := (h.rd (cs := [w2]) (r := RS) (x := ptOf p.2.length p (covN p.2.length p)[i])).cell1
    have kc : [d, w1, w2].all isCell = true := by rw [List.all_cons, List.all_cons, List.all_cons, List.all_nil, hd, k1, k2]; rfl
    simp only [gw]
    have m := (Loc.start H2).lent hv
    refine Wl.new m fun H3 b50 m => Wl.putA (b := b50) (i := 0) m rfl rfl kc fun H3 m => ?_
    have h3 := h.to m.le
    refine Wl.getA (b := b) h3 rfl (Wl.atInt (v := v21) (xs := (covN p.2.length p).map fun (s : Nat) => (s : Int)) (i := i) h3 hil fun _ => ?_)
    rw [List.getElem_map]
    refine Wi.callQ (fnQ19 (h3.rd (cs := [u1, u2]) (r := RProblem) (x := p)) hp g1 g2 fun H4 d' w1' w2' l kc' => ⟨l, ?_⟩)
    have m := m.to l
    simp only [gw]
    refine Wl.new m fun H5 b57 m => Wl.putA (b := b57) (i := 0) m rfl rfl kc' fun H5 m => Wi.neqC (fun q => absurd rfl q) fun _ => Wi.fls ?_
    have m : Ab.Loc H2 [.box b57 [d', w1', w2'], .box b50 [d, w1, w2], .lent (Rd.slice RFS) [v13] ys] H5 := m
    have h := h.to m.le
    have hpl := ptOf_len (n := p.2.length) (p := p) ((covN p.2.length p)[i])
    have h32 := pow5 hpb.n5
    have hn5 := hpb.n5
    generalize ptOf p.2.length p (covN p.2.length p)[i] = side at *
    refine W.for_rule side.length (fun k st H => H = H5 ∧ st = (.int .i64 (k : Nat), ())) ⟨rfl, rfl⟩ ?_
    rintro k st H J2 hk ⟨rfl, rfl⟩ hJ2
    unfold f4.l2
    refine Wi.eqlC (fun _ => ?_) fun q => absurd rfl q
    simp only [gw]
    refine Wi.fieldAddr (Wl.get (b := b50) (o := 2) m rfl (Wl.lenH (h.rd (cs := [w2]) (r := RS) (x := side)) (Wi.lssC (fun hlt2 => ?_) fun hge2 => ?_)))
    · have hks : k < side.length := by omega
      have h0 := g3 _ (List.getElem_mem hks)
      simp only [gw]
      refine Wi.fieldAddr (Wl.get (b := b50) (o := 2) m rfl (Wl.atIntH (h.rd (cs := [w2]) (r := RS) (x := side)) hks fun _ => Wi.lssC (fun q => absurd q (by omega)) fun _ => Wi.fls (Wi.add (by unfold I64; omega) (hJ2 _ _ hks ⟨rfl, rfl⟩))))
    · simp only [gw]
      have hil2 : i < (cvRes p).1.length := by rw [ec]; exact hil
      refine Wi.add (by unfold I64; omega) (hJ _ _ hil2 ⟨rfl, ?_, m.rd (cs := [v13]) (r := Rd.slice RFS) (x := ys)⟩)
      rw [ec]
      exact h.tl.tl
  refine Wl.getA (b := b) h rfl (Wi.call (fnQ8 (h.rd (cs := [u1, u2]) (r := RProblem) (x := p)) (fun hp H1 l => ?_) fun hp H1 v13 ys l hv hys => ?_))
  · have h := h.to l
    simp only [gw]
    refine Wl.getA (b := b) h rfl (Wi.call (fnQ9 (h.rd (cs := [u1, u2]) (r := RProblem) (x := p)) (fun _ H1 l => ?_) fun hp2 _ _ _ _ _ _ => by rw [hp] at hp2; cases hp2))
    have h := h.to l
    simp only [gw]
    exact cover _ _ _ 1 [] h ⟨_, .inl ⟨rfl, rfl, .inl rfl⟩⟩ ⟨_, .inl ⟨rfl, rfl, .inl rfl⟩⟩ fun q => absurd q (by decide)
  · have h := h.to l
    simp only [gw]
    refine Wl.getA (b := b) h rfl (Wi.call (fnQ9 (h.rd (cs := [u1, u2]) (r := RProblem) (x := p)) (fun hp2 H1 l => by rw [hp] at hp2; cases hp2) fun _ H1 v17 zs l hv2 hzs => ?_))
    have h := h.to l
    have hv := hv.le l
    have e : zs = ys := hzs.uniq hys (PB.of hp)
    subst e
    simp only [gw]
    exact cover _ _ _ 0 zs h hv hv2 fun _ => ⟨hp, hys⟩

end Go.Proofs.YtdmgomeogedjgaaGreat
