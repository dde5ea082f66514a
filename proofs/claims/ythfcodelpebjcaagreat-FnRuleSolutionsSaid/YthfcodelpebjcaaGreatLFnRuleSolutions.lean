/- The law FnRuleSolutions answers true on any abstract heap that holds its code. No condition. -/
import Derived.Test.YthfcodelpebjcaaGreatRS1
import Derived.Test.YthfcodelpebjcaaGreatFR9
import Derived.Test.YthfcodelpebjcaaGreatY1
namespace Go.Proofs.YthfcodelpebjcaaGreat
open Go.Ab

/- loop.example/g01343/laws.FnRuleSolutions -/
def f4.j3 (Q : Post) (v9 : Value) (v8 : Value) (v5 : Value) (v23 : Value) (H : Heap) : Prop :=
  W.bin .neq v9 (.int .i64 0) H fun v142 H =>
  W.cond v142 H
  (fun H => W.len v8 H fun v143 H =>
   W.bin .eql v143 (.int .i64 0) H fun v144 H =>
   Q v144 H)
  (fun H => W.getN 2 v5 H fun v145 H =>
   W.call Tryz.prog (.func (.func 37) #[] #[]) #[v145, v8] H fun v146 H =>
   W.extract 0 v146 H fun v147 H =>
   W.extract 1 v146 H fun v148 H =>
   W.bin .eql v23 (.int .i64 0) H fun v149 H =>
   W.guarded v149 true (fun H k => k v8 H) H fun v150 H =>
   W.guarded v149 true (fun H k => W.len v150 H k) H fun v151 H =>
   W.guarded v149 true (fun H k => W.fieldAddr 1 v5 H k) H fun v152 H =>
   W.guarded v149 true (fun H k => W.get v152 H k) H fun v153 H =>
   W.guarded v149 true (fun H k => W.len v153 H k) H fun v154 H =>
   W.guarded v149 true (fun H k => W.bin .eql v151 v154 H k) H fun v155 H =>
   W.pick v149 v155 (.bool false) H fun v156 H =>
   W.guarded v156 true (fun H k => k v148 H) H fun v157 H =>
   W.guarded v156 true (fun H k => W.bin .eql v157 (.int .i64 3) H k) H fun v158 H =>
   W.guarded v156 true (fun H k => k v158 H) H fun v159 H =>
   W.guarded v159 false (fun H k => k v148 H) H fun v160 H =>
   W.guarded v159 false (fun H k => W.bin .eql v160 (.int .i64 0) H k) H fun v161 H =>
   W.guarded v159 false (fun H k => k v161 H) H fun v162 H =>
   W.guarded v162 true (fun H k => k v147 H) H fun v163 H =>
   W.guarded v159 false (fun H k => W.pick v162 v163 (.bool false) H k) H fun v164 H =>
   W.guarded v156 true (fun H k => W.pick v159 (.bool true) v164 H k) H fun v165 H =>
   W.pick v156 v165 (.bool false) H fun v166 H =>
   Q v166 H)
def f4.j2 (Q : Post) (v23 : Value) (v5 : Value) (v4 : Value) (v22 : Value) (v9 : Value) (v8 : Value) (H : Heap) : Prop :=
  W.bin .eql v23 (.int .i64 0) H fun v126 H =>
  W.cond v126 H
  (fun H => W.getN 2 v5 H fun v127 H =>
   W.call Tryz.prog (.func (.func 36) #[] #[]) #[v127, (.int .i64 0), v4] H fun v128 H =>
   W.extract 0 v128 H fun v129 H =>
   W.extract 1 v128 H fun v130 H =>
   W.extract 2 v128 H fun v131 H =>
   W.bin .neq v131 (.int .i64 0) H fun v132 H =>
   W.guarded v132 false (fun H k => k v130 H) H fun v133 H =>
   W.guarded v132 false (fun H k => W.bin .neq v133 (.int .i64 0) H k) H fun v134 H =>
   W.pick v132 (.bool true) v134 H fun v135 H =>
   W.guarded v135 false (fun H k => k v129 H) H fun v136 H =>
   W.guarded v135 false (fun H k => W.len v136 H k) H fun v137 H =>
   W.guarded v135 false (fun H k => k v22 H) H fun v138 H =>
   W.guarded v135 false (fun H k => W.bin .add v138 (.int .i64 1) H k) H fun v139 H =>
   W.guarded v135 false (fun H k => W.bin .neq v137 v139 H k) H fun v140 H =>
   W.pick v135 (.bool true) v140 H fun v141 H =>
   W.cond v141 H
   (fun H => Q (.bool false) H)
   (fun H => f4.j3 Q v9 v8 v5 v23 H))
  (fun H => f4.j3 Q v9 v8 v5 v23 H)
def f4.l1 (Q : Post) (v36 : Value) (v101 : Value) (v40 : Value) (v35 : Value) (v39 : Value) (v23 : Value) (v5 : Value) (v4 : Value) (v22 : Value) (v9 : Value) (v8 : Value) (I1 : St [32] → Heap → Prop) (i_32 : Value) (H : Heap) : Prop :=
  W.fieldAddr 1 v36 H fun v102 H =>
  W.get v102 H fun v103 H =>
  W.len v103 H fun v104 H =>
  W.bin .lss i_32 v104 H fun v105 H =>
  W.cond v105 H
  (fun H => W.fieldAddr 1 v101 H fun v106 H =>
   W.get v106 H fun v107 H =>
   W.conv .u64 i_32 H fun v108 H =>
   W.bin .shr v40 v108 H fun v109 H =>
   W.bin .and v109 (.int .i64 1) H fun v110 H =>
   W.bin .mul (.int .i64 2) v110 H fun v111 H =>
   W.bin .sub (.int .i64 1) v111 H fun v112 H =>
   W.lit 1 [(.int .i64 0)] 2 [(0, 1, v112)] H fun v113 H =>
   W.append 1 2 v107 v113 H fun v114 H =>
   W.fieldAddr 1 v101 H fun v115 H =>
   W.put v115 v114 H fun _ H =>
   W.bin .add i_32 (.int .i64 1) H fun v116 H =>
   I1 (v116, ()) H)
  (fun H => W.getN 2 v101 H fun v117 H =>
   W.call Tryz.prog (.func (.func 27) #[] #[]) #[v117, v35] H fun v118 H =>
   W.extract 0 v118 H fun v119 H =>
   W.extract 1 v118 H fun v120 H =>
   W.bin .neq v120 (.int .i64 0) H fun v121 H =>
   W.guarded v121 false (fun H k => k v119 H) H fun v122 H =>
   W.guarded v121 false (fun H k => k v39 H) H fun v123 H =>
   W.guarded v121 false (fun H k => W.bin .neq v122 v123 H k) H fun v124 H =>
   W.pick v121 (.bool true) v124 H fun v125 H =>
   W.cond v125 H
   (fun H => Q (.bool false) H)
   (fun H => f4.j2 Q v23 v5 v4 v22 v9 v8 H))
def f4.j1 (Q : Post) (v41 : Value) (v36 : Value) (v40 : Value) (v35 : Value) (v39 : Value) (v23 : Value) (v5 : Value) (v4 : Value) (v22 : Value) (v9 : Value) (v8 : Value) (H : Heap) : Prop :=
  W.bin .eql v41 (.int .i64 0) H fun v96 H =>
  W.cond v96 H
  (fun H => W.fieldAddr 0 v36 H fun v97 H =>
   W.get v97 H fun v98 H =>
   W.lit 0 [(.int .i64 0)] 2 [] H fun v99 H =>
   W.build [(.slice none 0 0), (.slice none 0 0)] [(0, 1, v98), (1, 1, v99)] H fun v100 H =>
   W.new [(.slice none 0 0), (.slice none 0 0)] 27 H fun v101 H =>
   W.putN 2 v101 v100 H fun _ H =>
   W.loop (S := St [32]) (fun I1 s H => f4.l1 Q v36 v101 v40 v35 v39 v23 v5 v4 v22 v9 v8 I1 s.1 H) ((.int .i64 0), ()) H)
  (fun H => f4.j2 Q v23 v5 v4 v22 v9 v8 H)
def f4.w (Q : Post) (code_0 : Value) (H : Heap) : Prop :=
  W.call Tryz.prog (.func (.func 5) #[] #[]) #[code_0] H fun v1 H =>
  W.cond v1 H
  (fun H => Q (.bool true) H)
  (fun H => W.call Tryz.prog (.func (.func 23) #[] #[]) #[code_0] H fun v2 H =>
   W.extract 0 v2 H fun v3 H =>
   W.extract 1 v2 H fun v4 H =>
   W.new [(.slice none 0 0), (.slice none 0 0)] 27 H fun v5 H =>
   W.putN 2 v5 v3 H fun _ H =>
   W.getN 2 v5 H fun v6 H =>
   W.call Tryz.prog (.func (.func 24) #[] #[]) #[v6, v4] H fun v7 H =>
   W.extract 0 v7 H fun v8 H =>
   W.extract 1 v7 H fun v9 H =>
   W.getN 2 v5 H fun v10 H =>
   W.call Tryz.prog (.func (.func 25) #[] #[]) #[v10, v4] H fun v11 H =>
   W.extract 0 v11 H fun v12 H =>
   W.extract 1 v11 H fun v13 H =>
   W.bin .neq v9 v13 H fun v14 H =>
   W.guarded v14 false (fun H k => k v8 H) H fun v15 H =>
   W.guarded v14 false (fun H k => k v12 H) H fun v16 H =>
   W.guarded v14 false (fun H k => W.call Tryz.prog (.func (.func 26) #[] #[]) #[v15, v16] H k) H fun v17 H =>
   W.guarded v14 false (fun H k => W.un .not v17 H k) H fun v18 H =>
   W.pick v14 (.bool true) v18 H fun v19 H =>
   W.cond v19 H
   (fun H => Q (.bool false) H)
   (fun H => W.getN 2 v5 H fun v20 H =>
    W.call Tryz.prog (.func (.func 27) #[] #[]) #[v20, v4] H fun v21 H =>
    W.extract 0 v21 H fun v22 H =>
    W.extract 1 v21 H fun v23 H =>
    W.getN 2 v5 H fun v24 H =>
    W.call Tryz.prog (.func (.func 28) #[] #[]) #[v24, v4] H fun v25 H =>
    W.extract 0 v25 H fun v26 H =>
    W.extract 1 v25 H fun v27 H =>
    W.bin .neq v23 v27 H fun v28 H =>
    W.guarded v28 false (fun H k => k v22 H) H fun v29 H =>
    W.guarded v28 false (fun H k => k v26 H) H fun v30 H =>
    W.guarded v28 false (fun H k => W.bin .neq v29 v30 H k) H fun v31 H =>
    W.pick v28 (.bool true) v31 H fun v32 H =>
    W.cond v32 H
    (fun H => Q (.bool false) H)
    (fun H => W.call Tryz.prog (.func (.func 29) #[] #[]) #[code_0] H fun v33 H =>
     W.extract 0 v33 H fun v34 H =>
     W.extract 1 v33 H fun v35 H =>
     W.new [(.slice none 0 0), (.slice none 0 0)] 27 H fun v36 H =>
     W.putN 2 v36 v34 H fun _ H =>
     W.getN 2 v36 H fun v37 H =>
     W.call Tryz.prog (.func (.func 30) #[] #[]) #[v37, v35] H fun v38 H =>
     W.extract 0 v38 H fun v39 H =>
     W.extract 1 v38 H fun v40 H =>
     W.extract 2 v38 H fun v41 H =>
     W.getN 2 v36 H fun v42 H =>
     W.call Tryz.prog (.func (.func 31) #[] #[]) #[v42, v35] H fun v43 H =>
     W.extract 0 v43 H fun v44 H =>
     W.extract 1 v43 H fun v45 H =>
     W.extract 2 v43 H fun v46 H =>
     W.bin .neq v41 v46 H fun v47 H =>
     W.guarded v47 false (fun H k => k v39 H) H fun v48 H =>
     W.guarded v47 false (fun H k => k v44 H) H fun v49 H =>
     W.guarded v47 false (fun H k => W.bin .neq v48 v49 H k) H fun v50 H =>
     W.pick v47 (.bool true) v50 H fun v51 H =>
     W.guarded v51 false (fun H k => k v40 H) H fun v52 H =>
     W.guarded v51 false (fun H k => k v45 H) H fun v53 H =>
     W.guarded v51 false (fun H k => W.bin .neq v52 v53 H k) H fun v54 H =>
     W.pick v51 (.bool true) v54 H fun v55 H =>
     W.cond v55 H
     (fun H => Q (.bool false) H)
     (fun H => W.call Tryz.prog (.func (.func 32) #[] #[]) #[code_0] H fun v56 H =>
      W.call Tryz.prog (.func (.func 33) #[] #[]) #[v56] H fun v57 H =>
      W.extract 0 v57 H fun v58 H =>
      W.extract 1 v57 H fun v59 H =>
      W.new [(.slice none 0 0), (.slice none 0 0)] 27 H fun v60 H =>
      W.putN 2 v60 v58 H fun _ H =>
      W.call Tryz.prog (.func (.func 34) #[] #[]) #[v56] H fun v61 H =>
      W.extract 0 v61 H fun v62 H =>
      W.extract 1 v61 H fun v63 H =>
      W.new [(.slice none 0 0), (.slice none 0 0)] 27 H fun v64 H =>
      W.putN 2 v64 v62 H fun _ H =>
      W.bin .neq v59 v63 H fun v65 H =>
      W.guarded v65 false (fun H k => W.getN 2 v60 H k) H fun v66 H =>
      W.guarded v65 false (fun H k => W.getN 2 v64 H k) H fun v67 H =>
      W.guarded v65 false (fun H k => W.call Tryz.prog (.func (.func 35) #[] #[]) #[v66, v67] H k) H fun v68 H =>
      W.guarded v65 false (fun H k => W.un .not v68 H k) H fun v69 H =>
      W.pick v65 (.bool true) v69 H fun v70 H =>
      W.cond v70 H
      (fun H => Q (.bool false) H)
      (fun H => W.bin .eql v59 (.int .i64 0) H fun v71 H =>
       W.cond v71 H
       (fun H => W.getN 2 v60 H fun v72 H =>
        W.call Tryz.prog (.func (.func 27) #[] #[]) #[v72, (.int .i64 0)] H fun v73 H =>
        W.extract 0 v73 H fun v74 H =>
        W.extract 1 v73 H fun v75 H =>
        W.getN 2 v60 H fun v76 H =>
        W.call Tryz.prog (.func (.func 30) #[] #[]) #[v76, (.int .i64 0)] H fun v77 H =>
        W.extract 0 v77 H fun v78 H =>
        W.extract 1 v77 H fun v79 H =>
        W.extract 2 v77 H fun v80 H =>
        W.bin .neq v75 (.int .i64 0) H fun v81 H =>
        W.guarded v81 false (fun H k => k v74 H) H fun v82 H =>
        W.guarded v81 false (fun H k => k v56 H) H fun v83 H =>
        W.guarded v81 false (fun H k => W.conv .u64 v83 H k) H fun v84 H =>
        W.guarded v81 false (fun H k => W.bin .shl (.int .i64 1) v84 H k) H fun v85 H =>
        W.guarded v81 false (fun H k => W.bin .sub v85 (.int .i64 1) H k) H fun v86 H =>
        W.guarded v81 false (fun H k => W.bin .neq v82 v86 H k) H fun v87 H =>
        W.pick v81 (.bool true) v87 H fun v88 H =>
        W.guarded v88 false (fun H k => k v80 H) H fun v89 H =>
        W.guarded v88 false (fun H k => W.bin .neq v89 (.int .i64 0) H k) H fun v90 H =>
        W.pick v88 (.bool true) v90 H fun v91 H =>
        W.guarded v91 false (fun H k => k v78 H) H fun v92 H =>
        W.guarded v91 false (fun H k => k v74 H) H fun v93 H =>
        W.guarded v91 false (fun H k => W.bin .lss v92 v93 H k) H fun v94 H =>
        W.pick v91 (.bool true) v94 H fun v95 H =>
        W.cond v95 H
        (fun H => Q (.bool false) H)
        (fun H => f4.j1 Q v41 v36 v40 v35 v39 v23 v5 v4 v22 v9 v8 H))
       (fun H => f4.j1 Q v41 v36 v40 v35 v39 v23 v5 v4 v22 v9 v8 H))))))
theorem f4.enter {Q : Post} {code_0 : Value} {H : Heap} (h : f4.w Q code_0 H) : Runs Tryz.prog 4 #[code_0] H Q :=
  fn_enter (ann := [(30, [32])]) (by kernel_rfl) Tryz.func4 rfl (by kernel_rfl) h (by kernel_rfl)


theorem sr_run {p : Prob} {rule : Int} (h : (srRes p rule).2 = 0) : (steRes p rule).2 = 0 ∧ isProb p = true ∧ ∃ s : Nat, det p.2.length (mAt (colL p.2.length p.1 s)) ≠ 0 ∧ (∀ x ∈ ptOf p.2.length p s, 0 ≤ x) ∧ Frs (solF p.2.length p s) ∧ (srRes p rule).1 = solF p.2.length p s := by
  unfold srRes at h ⊢
  by_cases he : ruC p rule = 0
  case neg => rw [if_neg he] at h; exact absurd h he
  rw [if_pos he] at h ⊢
  obtain ⟨hp, hru⟩ := ruC_eq he
  obtain ⟨k, e, hre⟩ := run_exists (n := p.2.length) (p := p) (rule := rule) (s0 := 0) (Nat.pow_pos (by decide))
  have hrun := runOf_eq hre
  by_cases h0 : (runOf p.2.length p rule 0).2 = 0
  case neg => rw [if_neg h0] at h; cases h
  rw [if_pos h0] at h ⊢
  rw [hrun] at h h0 ⊢
  dsimp only at h0 h ⊢
  subst h0
  obtain ⟨hD, hf⟩ := cls_zero hre.2
  refine ⟨by unfold steRes; rw [if_pos he, hrun, if_pos rfl], hp, _, hD, hf, ?_, ?_⟩
  · unfold tolF at h
    split at h
    · rename_i g
      exact fun a ha => List.all_eq_true.1 g a ha
    · cases h
  · unfold tolF at h ⊢
    split at h
    · rename_i g
      rw [if_pos g]
    · cases h

theorem sr_none {p : Prob} {rule : Int} (h : (srRes p rule).2 ≠ 0) : (srRes p rule).1 = [] := by
  unfold srRes at h ⊢
  split
  · rename_i he
    rw [if_pos he] at h
    split
    · rename_i h0
      rw [if_pos h0] at h
      unfold tolF at h ⊢
      split
      · rename_i g
        rw [if_pos g] at h
        exact absurd rfl h
      · rfl
    · rfl
  · rfl

theorem ste_run {p : Prob} {rule : Int} (h : (steRes p rule).2 = 0) : ∃ k : Nat, (steRes p rule).1 = (k : Int) ∧ k ≤ 32 ∧ rnRes p 0 rule = (setsL ((List.range (k + 1)).map (ss p.2.length p rule 0)), 0, 0) := by
  unfold steRes at h ⊢
  by_cases he : ruC p rule = 0
  case neg => rw [if_neg he] at h; exact absurd h he
  rw [if_pos he] at h ⊢
  obtain ⟨hp, hru⟩ := ruC_eq he
  obtain ⟨k, e, hre⟩ := run_exists (n := p.2.length) (p := p) (rule := rule) (s0 := 0) (Nat.pow_pos (by decide))
  have hrun := runOf_eq hre
  by_cases h0 : (runOf p.2.length p rule 0).2 = 0
  case neg => rw [if_neg h0] at h; cases h
  rw [if_pos h0]
  have hk := run_len (PB.of hp).n5 hre
  rw [hrun] at h0 ⊢
  dsimp only at h0
  subst h0
  have h2 : ruC2 p ((0 : Nat) : Int) rule = 0 := by
    have hpw : 0 < 2 ^ p.2.length := Nat.pow_pos (by decide)
    unfold ruC2
    rw [if_pos hp, if_pos ⟨inR_iff.2 (by omega), inR_iff.2 hru⟩]
  exact ⟨k, rfl, hk, rnRes_run h2 hre⟩

theorem mu_ste {n : Nat} (h : 1 ≤ n ∧ n ≤ 5) (hp : isProb (muP n) = true) : steRes (muP n) 0 = (((2 ^ n - 1 : Nat) : Int), 0) ∧ (wsRes (muP n) 0).2.2 = 0 ∧ ((2 ^ n - 1 : Nat) : Int) ≤ (wsRes (muP n) 0).1 := by
  have hl := (muP_is n).2.2
  have he : ruC (muP n) 0 = 0 := by unfold ruC; rw [if_pos hp, if_pos (by decide)]
  obtain ⟨h1, h2⟩ := mu_steps h
  have hb : ∀ x, x < 2 ^ (muP n).2.length → (runOf (muP n).2.length (sgnP (muP n) x) 0 0).2 = 0 := fun x hx => by
    rw [hl] at hx ⊢
    exact mu_run h hx
  have hpw : 0 < 2 ^ n := Nat.pow_pos (by decide)
  refine ⟨by unfold steRes; rw [if_pos he, hl, h1, if_pos rfl], by rw [ws_good he hb], ?_⟩
  rw [ws_good he hb]
  have := wsM_ge (p := muP n) (rule := 0) (x := 2 ^ n - 1) (N := 2 ^ (muP n).2.length) (by rw [hl]; omega)
  rw [h2, hl, h1] at this
  rw [hl]
  exact this

theorem mu_prob {n : Nat} (h : 1 ≤ n ∧ n ≤ 5) : isProb (muP n) = true := by
  have := mem5 h
  simp only [List.mem_cons, List.not_mem_nil, or_false] at this
  rcases this with rfl | rfl | rfl | rfl | rfl <;> decide +kernel

theorem ws_ste {p : Prob} {rule : Int} (h : (wsRes p rule).2.2 = 0) : ∃ x : Nat, (wsRes p rule).2.1 = (x : Int) ∧ x < 4294967296 ∧ isProb p = true ∧ steRes (sgnP p x) rule = ((wsRes p rule).1, 0) := by
  by_cases he : ruC p rule = 0
  case neg =>
    unfold wsRes at h
    rw [if_neg he] at h
    exact absurd h he
  obtain ⟨hp, hru⟩ := ruC_eq he
  by_cases hb : ∀ x, x < 2 ^ p.2.length → (runOf p.2.length (sgnP p x) rule 0).2 = 0
  · rw [ws_good he hb]
    have h32 := pow5 (PB.of hp).n5
    obtain ⟨x, h1, h2, h3⟩ := wsW_at (p := p) (rule := rule) (N := 2 ^ p.2.length) (Nat.pow_pos (by decide))
    refine ⟨x, h2, by omega, hp, ?_⟩
    have he2 : ruC (sgnP p x) rule = 0 := by unfold ruC; rw [if_pos (sgnP_prob hp x), if_pos (inR_iff.2 hru)]
    unfold steRes
    rw [if_pos he2, show (sgnP p x).2.length = p.2.length from sgnQ_len _ _, if_pos (hb x h1)]
    dsimp only
    rw [h3]
  · obtain ⟨x, hx⟩ := Classical.not_forall.1 hb
    obtain ⟨hx, hn⟩ := Classical.not_imp.1 hx
    rw [ws_bad he hx hn] at h
    cases h

theorem rs_j3 {H0 H : Heap} {b5 : Nat} {u1 u2 v8 : Value} {p : Prob} {rule : Int}
    (h : Ab.Loc H0 [.data RFS [v8] (srRes p rule).1, .box b5 [u1, u2], .data RProblem [u1, u2] p] H) :
    f4.j3 (fun v _ => v = .bool true) (.int .i64 (srRes p rule).2) v8 (pt b5 0) (.int .i64 (steRes p rule).2) H := by
  unfold f4.j3
  refine Wi.neqC (fun hne => Wi.tru ?_) fun he => Wi.fls ?_
  · rw [sr_none hne] at h
    exact Wl.len (v := v8) (xs := ([] : List Frac)) h (Wi.eqlC (fun _ => rfl) fun g => absurd rfl g)
  obtain ⟨h1, hp, s, hD, hf, hF, hz⟩ := sr_run he
  rw [h1]
  rw [hz] at h
  have hlz : (solF p.2.length p s).length = p.2.length := by simp [solF]
  have h5 := (PB.of hp).n5
  have hl : Has RS H [u2] p.2 := by
    obtain ⟨w1, w2, e, r1, r2⟩ := hasProb (h.rd (cs := [u1, u2]) (r := RProblem))
    simp only [List.cons.injEq, and_true] at e
    rw [e.2]
    exact r2
  have fin : ∀ (t : Bool) (c : Int) H', H.Le H' → (c = 3 ∨ c = 0 ∧ t = true) →
      W.bin .eql (.int .i64 0) (.int .i64 0) H' fun v149 H => W.guarded v149 true (fun H k => k v8 H) H fun v150 H => W.guarded v149 true (fun H k => W.len v150 H k) H fun v151 H =>
       W.guarded v149 true (fun H k => W.fieldAddr 1 (pt b5 0) H k) H fun v152 H => W.guarded v149 true (fun H k => W.get v152 H k) H fun v153 H => W.guarded v149 true (fun H k => W.len v153 H k) H fun v154 H =>
       W.guarded v149 true (fun H k => W.bin .eql v151 v154 H k) H fun v155 H => W.pick v149 v155 (.bool false) H fun v156 H =>
       W.guarded v156 true (fun H k => k (.int .i64 c) H) H fun v157 H => W.guarded v156 true (fun H k => W.bin .eql v157 (.int .i64 3) H k) H fun v158 H => W.guarded v156 true (fun H k => k v158 H) H fun v159 H =>
       W.guarded v159 false (fun H k => k (.int .i64 c) H) H fun v160 H => W.guarded v159 false (fun H k => W.bin .eql v160 (.int .i64 0) H k) H fun v161 H => W.guarded v159 false (fun H k => k v161 H) H fun v162 H =>
       W.guarded v162 true (fun H k => k (.bool t) H) H fun v163 H => W.guarded v159 false (fun H k => W.pick v162 v163 (.bool false) H k) H fun v164 H =>
       W.guarded v156 true (fun H k => W.pick v159 (.bool true) v164 H k) H fun v165 H => W.pick v156 v165 (.bool false) H fun v166 H => v166 = .bool true := fun t c H' l hc => by
    have h := h.to l
    have hl := hl.le l
    refine Wi.eqlC (fun _ => ?_) fun g => absurd rfl g
    simp only [gw]
    refine Wl.len (v := v8) (xs := solF p.2.length p s) h (Wi.fieldAddr (Wl.get (b := b5) (o := 1) h rfl (Wl.lenH hl (Wi.eqlC (fun _ => ?_) fun g => absurd (by rw [hlz]) g))))
    simp only [gw]
    rcases hc with rfl | ⟨rfl, rfl⟩
    · refine Wi.eqlC (fun _ => ?_) fun g => absurd rfl g
      simp only [gw]
    · refine Wi.eqlC (fun g => absurd g (by decide)) fun _ => ?_
      simp only [gw]
      refine Wi.eqlC (fun _ => ?_) fun g => absurd rfl g
      simp only [gw]
  refine Wl.getA (b := b5) h rfl (Wi.call (fn37 (n := p.2.length) (h.rd (cs := [u1, u2])) (h.rd (cs := [v8])) hp rfl hF hlz (fun _ H l => ?_) fun l d hg H l2 => ?_))
  · simp only [gw]
    exact fin _ 3 _ l (.inl rfl)
  · rw [sol_ok (PB.of hp) hD hf hF hg]
    simp only [gw]
    exact fin _ 0 _ l2 (.inr ⟨rfl, rfl⟩)

theorem rs_j2 {H0 H : Heap} {b5 : Nat} {u1 u2 v8 : Value} {p : Prob} {rule : Int}
    (h : Ab.Loc H0 [.data RFS [v8] (srRes p rule).1, .box b5 [u1, u2], .data RProblem [u1, u2] p] H) :
    f4.j2 (fun v _ => v = .bool true) (.int .i64 (steRes p rule).2) (pt b5 0) (.int .i64 rule) (.int .i64 (steRes p rule).1) (.int .i64 (srRes p rule).2) v8 H := by
  unfold f4.j2
  refine Wi.eqlC (fun he => Wi.tru ?_) fun _ => Wi.fls (rs_j3 h)
  obtain ⟨k, hk, hk32, hR⟩ := ste_run he
  refine Wl.getA (b := b5) h rfl (Wi.call (fn36 (h.rd (cs := [u1, u2])) fun H v129 f => ?_))
  have h := h.add f
  rw [hR] at h ⊢
  simp only [gw]
  refine Wi.neqC (fun g => absurd rfl g) fun _ => ?_
  simp only [gw]
  refine Wi.neqC (fun g => absurd rfl g) fun _ => ?_
  simp only [gw]
  have hll : (setsL ((List.range (k + 1)).map (ss p.2.length p rule 0))).length = k + 1 := by simp [setsL]
  refine Wl.len (v := v129) (xs := setsL ((List.range (k + 1)).map (ss p.2.length p rule 0))) h ?_
  rw [hk, hll]
  refine Wi.add (by unfold I64; omega) (Wi.neqC (fun g => absurd (by omega) g) fun _ => ?_)
  simp only [gw]
  exact rs_j3 h.tl

theorem rs_j1 {H0 H : Heap} {b5 b36 : Nat} {u1 u2 w1 w2 v8 : Value} {p q : Prob} {rule r : Int}
    (h : Ab.Loc H0 [.box b36 [w1, w2], .data RProblem [w1, w2] q, .data RFS [v8] (srRes p rule).1, .box b5 [u1, u2], .data RProblem [u1, u2] p] H) :
    f4.j1 (fun v _ => v = .bool true) (.int .i64 (wsRes q r).2.2) (pt b36 0) (.int .i64 (wsRes q r).2.1) (.int .i64 r) (.int .i64 (wsRes q r).1) (.int .i64 (steRes p rule).2) (pt b5 0) (.int .i64 rule) (.int .i64 (steRes p rule).1) (.int .i64 (srRes p rule).2) v8 H := by
  unfold f4.j1
  refine Wi.eqlC (fun he => Wi.tru ?_) fun _ => Wi.fls (rs_j2 h.tl.tl)
  obtain ⟨x, hx, hx32, hp, hS⟩ := ws_ste he
  have hn := (PB.of hp).n5
  have h := (h.front 1 rfl).unpair (r := RSS) (s := RS) (c1 := [w1]) (c2 := [w2]) (x := q.1) (y := q.2) rfl
  have h : Ab.Loc H0 [.data RSS [w1] q.1, .data RS [w2] q.2, .box b36 [w1, w2], .data RFS [v8] (srRes p rule).1, .box b5 [u1, u2], .data RProblem [u1, u2] p] H := h
  refine Wi.fieldAddr (Wl.get (b := b36) (o := 0) h rfl (Wl.lit0 (ty := 2) Rd.int rfl h fun H g h => ?_))
  have hu := (h.rd (cs := [w1]) (r := RSS)).one
  have hcu := (h.rd (cs := [w1]) (r := RSS)).cell1
  have hg := (h.rd (cs := [g]) (r := RS)).one
  have hcg := (h.rd (cs := [g]) (r := RS)).cell1
  have kall : ∀ (g : Value), isCell g = true → [w1, g].all isCell = true := fun g hg => by simp [hcu, hg]
  refine Wi.build (cells := [w1, g]) (by simp [fillA, hg, hu]) (Wl.new h fun H b3 h => Wl.putA h rfl rfl (kall _ hcg) fun H h => ?_)
  refine W.for_rule q.2.length (fun i st H => ∃ g, st = (.int .i64 (i : Nat), ()) ∧ Ab.Loc H0 [.box b3 [w1, g], .grow Rd.int 2 g ((List.range i).map fun j => if x.testBit j then -1 else 1), .data RSS [w1] q.1, .data RS [w2] q.2, .box b36 [w1, w2], .data RFS [v8] (srRes p rule).1, .box b5 [u1, u2], .data RProblem [u1, u2] p] H) ⟨_, rfl, h⟩ ?_
  rintro i st H J hi ⟨g, rfl, h⟩ hJ
  refine Wi.fieldAddr (Wl.get (b := b36) (o := 1) h rfl (Wl.len (v := w2) (xs := q.2) h (Wi.lssC (fun hlt => Wi.tru ?_) fun hge => Wi.fls ?_)))
  · have hin : i < q.2.length := by omega
    have hI : I64 ((i : Int) + 1) := by unfold I64; omega
    have hI2 : ∀ y : Nat, I64 (2 * ((y % 2 : Nat) : Int)) ∧ I64 (1 - 2 * ((y % 2 : Nat) : Int)) := fun y => by constructor <;> (unfold I64; omega)
    have ev : 1 - 2 * ((x / 2 ^ i % 2 : Nat) : Int) = if x.testBit i then -1 else 1 := by
      cases hb : x.testBit i with
      | true => have := bit_iff.2 hb; simp only [if_true]; omega
      | false =>
        have : ¬ ((x / 2 ^ i % 2 : Nat) : Int) = 1 := fun e => by rw [bit_iff.1 e] at hb; cases hb
        simp only [Bool.false_eq_true, if_false]
        omega
    rw [hx]
    refine Wi.fieldAddr (Wl.get (b := b3) (o := 1) h rfl (Wi.convN (by omega) (Wi.shrN (by omega) (by omega) (Wi.and1 (Wi.mul (hI2 _).1 (Wi.sub (hI2 _).2 ?_))))))
    rw [ev]
    refine Wl.pushP (r := Rd.int) (x := if x.testBit i then -1 else 1) (i := 1) rfl rfl rfl (fun _ => ⟨rfl, rfl, by split <;> (unfold I64; omega)⟩) h (by simp; omega) fun H g' h => ?_
    have h : Ab.Loc H0 [.box b3 [w1, g], .grow Rd.int 2 g' ((List.range i).map (fun j => if x.testBit j then (-1 : Int) else 1) ++ [if x.testBit i then -1 else 1]), .data RSS [w1] q.1, .data RS [w2] q.2, .box b36 [w1, w2], .data RFS [v8] (srRes p rule).1, .box b5 [u1, u2], .data RProblem [u1, u2] p] H := h
    rw [range_push (f := fun j => if x.testBit j then (-1 : Int) else 1) rfl] at h
    have hcg := (h.rd (cs := [g']) (r := RS)).cell1
    refine Wi.fieldAddr (Wl.put (b := b3) (o := 1) (i := 0) h hcg (by simp) fun H h => Wi.add hI ?_)
    exact hJ _ _ hin ⟨g', rfl, h⟩
  · have : i = q.2.length := by omega
    subst this
    have h := h.asData (i := 1) rfl
    obtain ⟨bs1, q1⟩ := h.rd (cs := [w1]) (r := RSS)
    obtain ⟨bs2, q2⟩ := h.rd (cs := [g]) (r := RS)
    have hP : Has RProblem H [w1, g] (sgnP q x) := ⟨_, bs1, bs2, [w1], [g], rfl, rfl, q1, q2⟩
    refine Wl.getA (b := b3) h rfl (Wi.call (fnG27 hP fun H l => ?_))
    have h := h.to l
    rw [hS]
    simp only [gw]
    refine Wi.neqC (fun g => absurd rfl g) fun _ => ?_
    simp only [gw]
    refine Wi.neqC (fun g => absurd rfl g) fun _ => ?_
    simp only [gw]
    have h : Ab.Loc H0 [.box b3 [w1, g], .data RS [g] (sgnQ q.2.length x), .data RSS [w1] q.1, .data RS [w2] q.2, .box b36 [w1, w2], .data RFS [v8] (srRes p rule).1, .box b5 [u1, u2], .data RProblem [u1, u2] p] H := h
    exact rs_j2 h.tl.tl.tl.tl.tl

theorem law4 {H0 : Heap} {bs0 : List Nat} {v0 : Value} {x0 : List Int} (hr0 : RBytes.rel H0 bs0 [v0] x0) : Runs Tryz.prog 4 #[v0] H0 (fun v _ => v = .bool true) := by
  have hc : Has RBytes H0 [v0] x0 := ⟨bs0, hr0⟩
  refine f4.enter ?_
  unfold f4.w
  refine Wi.call (f5.enter (Wl.lenH hc ?_))
  generalize (4096 : Int) = top
  refine Wi.gtrC (fun _ => Wi.tru rfl) fun _ => Wi.fls ?_
  refine Wi.call (fn23 hc fun H u1 u2 p rule f hp hI => ?_)
  have h := (Loc.start H0).add f
  have kp := (h.rd (cs := [u1, u2]) (r := RProblem)).cell
  simp only [gw]
  refine Wl.new h fun H b5 h => Wl.putA h rfl rfl kp fun H h => Wl.getA (b := b5) h rfl (Wi.call (fn24 (h.rd (cs := [u1, u2])) hI hp.w fun H v8 f => ?_))
  have h := h.add f
  simp only [gw]
  refine Wl.getA (b := b5) h rfl (Wi.call (fn25 (h.rd (cs := [u1, u2])) hI hp.w fun H v12 f => ?_))
  have h := h.add f
  simp only [gw]
  refine Wi.neqC (fun g => absurd rfl g) fun _ => ?_
  simp only [gw]
  refine Wi.call (fn26 (h.rd (cs := [v8])) (h.rd (cs := [v12])) ?_)
  rw [decide_eq_true rfl]
  simp only [gw]
  have h : Ab.Loc H0 [.data RFS [v8] (srRes p rule).1, .box b5 [u1, u2], .data RProblem [u1, u2] p] _ := h.tl
  refine Wl.getA (b := b5) h rfl (Wi.call (fnG27 (h.rd (cs := [u1, u2])) fun H l => ?_))
  have h := h.to l
  simp only [gw]
  refine Wl.getA (b := b5) h rfl (Wi.call (fn28 (h.rd (cs := [u1, u2])) fun H l => ?_))
  have h := h.to l
  simp only [gw]
  refine Wi.neqC (fun g => absurd rfl g) fun _ => ?_
  simp only [gw]
  refine Wi.neqC (fun g => absurd rfl g) fun _ => ?_
  simp only [gw]
  -- the signs
  refine Wi.call (fn29 (hc.le h.le) fun H w1 w2 q r f hq hIr => ?_)
  have h := h.add f
  have kq := (h.rd (cs := [w1, w2]) (r := RProblem)).cell
  simp only [gw]
  refine Wl.new h fun H b36 h => Wl.putA h rfl rfl kq fun H h => Wl.getA (b := b36) h rfl (Wi.call (fn30 (h.rd (cs := [w1, w2])) hIr hq.w fun H l => ?_))
  have h := h.to l
  simp only [gw]
  refine Wl.getA (b := b36) h rfl (Wi.call (fn31 (h.rd (cs := [w1, w2])) hIr hq.w fun H l => ?_))
  have h := h.to l
  simp only [gw]
  refine Wi.neqC (fun g => absurd rfl g) fun _ => ?_
  simp only [gw]
  refine Wi.neqC (fun g => absurd rfl g) fun _ => ?_
  simp only [gw]
  refine Wi.neqC (fun g => absurd rfl g) fun _ => ?_
  simp only [gw]
  have h : Ab.Loc H0 [.box b36 [w1, w2], .data RProblem [w1, w2] q, .data RFS [v8] (srRes p rule).1, .box b5 [u1, u2], .data RProblem [u1, u2] p] _ := h
  -- Murty's problem
  refine Wi.call (fn32 (hc.le h.le) fun H n l hn => ?_)
  have h := h.to l
  have hIn : I64 n := by unfold I64; omega
  refine Wi.call (fn33 hIn (fun hno H l => ?_) fun k hk hk5 H m1 m2 f => ?_)
  · have h := nilP (h.to l)
    simp only [gw]
    refine Wl.new h fun H b60 h => Wl.putA h rfl rfl rfl fun H h => Wi.call (fn34 hIn (fun _ H l => ?_) fun k hk hk5 => absurd (by omega) hno)
    have h := h.to l
    simp only [gw]
    refine Wl.new h fun H b64 h => Wl.putA h rfl rfl rfl fun H h => Wi.neqC (fun g => absurd rfl g) fun _ => ?_
    simp only [gw]
    refine Wl.getA (b := b60) h rfl (Wl.getA (b := b64) h rfl (Wi.call (fn35 (h.rd (cs := [.slice none 0 0, .slice none 0 0])) (h.rd (cs := [.slice none 0 0, .slice none 0 0])) fun H l => ?_)))
    have h := h.to l
    simp only [gw]
    exact Wi.eqlC (fun g => absurd g (by decide)) fun _ => Wi.fls (rs_j1 h.tl.tl.tl)
  · have h := h.add f
    have km := (h.rd (cs := [m1, m2]) (r := RProblem)).cell
    simp only [gw]
    refine Wl.new h fun H b60 h => Wl.putA h rfl rfl km fun H h => Wi.call (fn34 hIn (fun hno => absurd (by omega) hno) fun k' hk' _ H e1 e2 f2 => ?_)
    have h := h.add f2
    have : k' = k := by omega
    subst this
    have ke := (h.rd (cs := [e1, e2]) (r := RProblem)).cell
    simp only [gw]
    refine Wl.new h fun H b64 h => Wl.putA h rfl rfl ke fun H h => Wi.neqC (fun g => absurd rfl g) fun _ => ?_
    simp only [gw]
    refine Wl.getA (b := b60) h rfl (Wl.getA (b := b64) h rfl (Wi.call (fn35 (h.rd (cs := [m1, m2])) (h.rd (cs := [e1, e2])) fun H l => ?_)))
    have h := h.to l
    simp only [gw]
    refine Wi.eqlC (fun _ => Wi.tru ?_) fun g => absurd rfl g
    have hmp := mu_prob hk5
    obtain ⟨t1, t2, t3⟩ := mu_ste hk5 hmp
    have h32 := pow5 hk5.2
    have hw : wProblem (muP k') ≤ 1048576 := ((muP_is k').small hk5.2).w
    refine Wl.getA (b := b60) h rfl (Wi.call (fnG27 (h.rd (cs := [m1, m2])) fun H l => ?_))
    have h := h.to l
    rw [t1]
    simp only [gw]
    refine Wl.getA (b := b60) h rfl (Wi.call (fn30 (h.rd (cs := [m1, m2])) (by unfold I64; omega) hw fun H l => ?_))
    have h := h.to l
    simp only [gw]
    refine Wi.neqC (fun g => absurd rfl g) fun _ => ?_
    simp only [gw]
    rw [hk]
    refine Wi.convN (by omega) (Wi.shl1 (by omega) ?_)
    have hpw : 0 < 2 ^ k' := Nat.pow_pos (by decide)
    generalize 2 ^ k' = N at *
    refine Wi.sub (by unfold I64; omega) (Wi.neqC (fun g => absurd (by omega) g) fun _ => ?_)
    simp only [gw]
    refine Wi.neqC (fun g => absurd t2 g) fun _ => ?_
    simp only [gw]
    refine Wi.lssC (fun g => absurd g (by omega)) fun _ => ?_
    simp only [gw]
    exact rs_j1 h.tl.tl.tl.tl

end Go.Proofs.YthfcodelpebjcaaGreat
