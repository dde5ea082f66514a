/- The law FnRules answers true on any abstract heap that holds its code. No condition. -/
import Derived.Test.YthfcodelpebjcaaRU2
namespace Go.Proofs.Ythfcodelpebjcaa
open Go.Ab

/- loop.example/g01343/laws.FnRules -/
def f3.j1 (Q : Post) (i_31 : Value) (I1 : St [30, 31] → Heap → Prop) (met_30' : Value) (H : Heap) : Prop :=
  W.bin .add i_31 (.int .i64 1) H fun v109 H =>
  I1 (met_30', v109, ()) H
def f3.l1 (Q : Post) (v9 : Value) (v87 : Value) (v10 : Value) (v78 : Value) (I1 : St [30, 31] → Heap → Prop) (met_30 : Value) (i_31 : Value) (H : Heap) : Prop :=
  W.len v9 H fun v103 H =>
  W.bin .lss i_31 v103 H fun v104 H =>
  W.cond v104 H
  (fun H => W.indexAddr 1 v9 i_31 H fun v105 H =>
   W.get v105 H fun v106 H =>
   W.bin .eql v106 v87 H fun v107 H =>
   W.cond v107 H
   (fun H => W.bin .add met_30 (.int .i64 1) H fun v108 H =>
    f3.j1 Q i_31 I1 v108 H)
   (fun H => f3.j1 Q i_31 I1 met_30 H))
  (fun H => W.bin .eql v10 (.int .i64 2) H fun v110 H =>
   W.guarded v110 true (fun H k => k met_30 H) H fun v111 H =>
   W.guarded v110 true (fun H k => W.bin .eql v111 (.int .i64 2) H k) H fun v112 H =>
   W.pick v110 v112 (.bool false) H fun v113 H =>
   W.guarded v113 true (fun H k => k v78 H) H fun v114 H =>
   W.guarded v113 true (fun H k => k v87 H) H fun v115 H =>
   W.guarded v113 true (fun H k => W.call Try.prog (.func (.func 19) #[] #[]) #[v114, v115] H k) H fun v116 H =>
   W.pick v113 v116 (.bool false) H fun v117 H =>
   Q v117 H)
def f3.w (Q : Post) (code_0 : Value) (H : Heap) : Prop :=
  W.call Try.prog (.func (.func 5) #[] #[]) #[code_0] H fun v1 H =>
  W.cond v1 H
  (fun H => Q (.bool true) H)
  (fun H => W.call Try.prog (.func (.func 6) #[] #[]) #[code_0] H fun v2 H =>
   W.extract 0 v2 H fun v3 H =>
   W.extract 1 v2 H fun v4 H =>
   W.extract 2 v2 H fun v5 H =>
   W.new [(.slice none 0 0), (.slice none 0 0)] 27 H fun v6 H =>
   W.putN 2 v6 v3 H fun _ H =>
   W.getN 2 v6 H fun v7 H =>
   W.call Try.prog (.func (.func 7) #[] #[]) #[v7, v4, v5] H fun v8 H =>
   W.extract 0 v8 H fun v9 H =>
   W.extract 1 v8 H fun v10 H =>
   W.extract 2 v8 H fun v11 H =>
   W.getN 2 v6 H fun v12 H =>
   W.call Try.prog (.func (.func 8) #[] #[]) #[v12, v4, v5] H fun v13 H =>
   W.extract 0 v13 H fun v14 H =>
   W.extract 1 v13 H fun v15 H =>
   W.extract 2 v13 H fun v16 H =>
   W.bin .neq v11 v16 H fun v17 H =>
   W.guarded v17 false (fun H k => k v9 H) H fun v18 H =>
   W.guarded v17 false (fun H k => k v14 H) H fun v19 H =>
   W.guarded v17 false (fun H k => W.call Try.prog (.func (.func 9) #[] #[]) #[v18, v19] H k) H fun v20 H =>
   W.guarded v17 false (fun H k => W.un .not v20 H k) H fun v21 H =>
   W.pick v17 (.bool true) v21 H fun v22 H =>
   W.guarded v22 false (fun H k => k v10 H) H fun v23 H =>
   W.guarded v22 false (fun H k => k v15 H) H fun v24 H =>
   W.guarded v22 false (fun H k => W.bin .neq v23 v24 H k) H fun v25 H =>
   W.pick v22 (.bool true) v25 H fun v26 H =>
   W.cond v26 H
   (fun H => Q (.bool false) H)
   (fun H => W.call Try.prog (.func (.func 10) #[] #[]) #[code_0] H fun v27 H =>
    W.extract 0 v27 H fun v28 H =>
    W.extract 1 v27 H fun v29 H =>
    W.extract 2 v27 H fun v30 H =>
    W.new [(.slice none 0 0), (.slice none 0 0)] 27 H fun v31 H =>
    W.putN 2 v31 v28 H fun _ H =>
    W.getN 2 v31 H fun v32 H =>
    W.call Try.prog (.func (.func 11) #[] #[]) #[v32, v29, v30] H fun v33 H =>
    W.extract 0 v33 H fun v34 H =>
    W.extract 1 v33 H fun v35 H =>
    W.getN 2 v31 H fun v36 H =>
    W.call Try.prog (.func (.func 12) #[] #[]) #[v36, v29, v30] H fun v37 H =>
    W.extract 0 v37 H fun v38 H =>
    W.extract 1 v37 H fun v39 H =>
    W.bin .neq v35 v39 H fun v40 H =>
    W.guarded v40 false (fun H k => k v34 H) H fun v41 H =>
    W.guarded v40 false (fun H k => k v38 H) H fun v42 H =>
    W.guarded v40 false (fun H k => W.bin .neq v41 v42 H k) H fun v43 H =>
    W.pick v40 (.bool true) v43 H fun v44 H =>
    W.cond v44 H
    (fun H => Q (.bool false) H)
    (fun H => W.call Try.prog (.func (.func 13) #[] #[]) #[code_0] H fun v45 H =>
     W.extract 0 v45 H fun v46 H =>
     W.extract 1 v45 H fun v47 H =>
     W.new [(.slice none 0 0), (.slice none 0 0)] 27 H fun v48 H =>
     W.putN 2 v48 v46 H fun _ H =>
     W.getN 2 v48 H fun v49 H =>
     W.call Try.prog (.func (.func 14) #[] #[]) #[v49, v47] H fun v50 H =>
     W.extract 0 v50 H fun v51 H =>
     W.extract 1 v50 H fun v52 H =>
     W.getN 2 v48 H fun v53 H =>
     W.call Try.prog (.func (.func 15) #[] #[]) #[v53, v47] H fun v54 H =>
     W.extract 0 v54 H fun v55 H =>
     W.extract 1 v54 H fun v56 H =>
     W.bin .neq v52 v56 H fun v57 H =>
     W.guarded v57 false (fun H k => k v51 H) H fun v58 H =>
     W.guarded v57 false (fun H k => k v55 H) H fun v59 H =>
     W.guarded v57 false (fun H k => W.call Try.prog (.func (.func 9) #[] #[]) #[v58, v59] H k) H fun v60 H =>
     W.guarded v57 false (fun H k => W.un .not v60 H k) H fun v61 H =>
     W.pick v57 (.bool true) v61 H fun v62 H =>
     W.cond v62 H
     (fun H => Q (.bool false) H)
     (fun H => W.bin .eql v52 (.int .i64 0) H fun v63 H =>
      W.guarded v63 true (fun H k => k v51 H) H fun v64 H =>
      W.guarded v63 true (fun H k => W.callQ Try.prog (.func (.func 16) #[] #[]) #[v64] H k) H fun v65 H =>
      W.guarded v63 true (fun H k => W.fieldAddr 1 v48 H k) H fun v66 H =>
      W.guarded v63 true (fun H k => W.get v66 H k) H fun v67 H =>
      W.guarded v63 true (fun H k => W.len v67 H k) H fun v68 H =>
      W.guarded v63 true (fun H k => W.conv .u64 v68 H k) H fun v69 H =>
      W.guarded v63 true (fun H k => W.bin .shl (.int .i64 1) v69 H k) H fun v70 H =>
      W.guarded v63 true (fun H k => W.bin .neq v65 v70 H k) H fun v71 H =>
      W.pick v63 v71 (.bool false) H fun v72 H =>
      W.cond v72 H
      (fun H => Q (.bool false) H)
      (fun H => W.bin .neq v11 (.int .i64 0) H fun v73 H =>
       W.cond v73 H
       (fun H => W.len v9 H fun v74 H =>
        W.bin .eql v74 (.int .i64 0) H fun v75 H =>
        Q v75 H)
       (fun H => W.getN 2 v6 H fun v76 H =>
        W.call Try.prog (.func (.func 17) #[] #[]) #[v76] H fun v77 H =>
        W.extract 0 v77 H fun v78 H =>
        W.extract 1 v77 H fun v79 H =>
        W.getN 2 v6 H fun v80 H =>
        W.call Try.prog (.func (.func 18) #[] #[]) #[v80] H fun v81 H =>
        W.extract 0 v81 H fun v82 H =>
        W.extract 1 v81 H fun v83 H =>
        W.len v9 H fun v84 H =>
        W.bin .sub v84 (.int .i64 1) H fun v85 H =>
        W.indexAddr 1 v9 v85 H fun v86 H =>
        W.get v86 H fun v87 H =>
        W.bin .neq v79 (.int .i64 0) H fun v88 H =>
        W.guarded v88 false (fun H k => k v83 H) H fun v89 H =>
        W.guarded v88 false (fun H k => W.bin .neq v89 (.int .i64 0) H k) H fun v90 H =>
        W.pick v88 (.bool true) v90 H fun v91 H =>
        W.guarded v91 false (fun H k => k v9 H) H fun v92 H =>
        W.guarded v91 false (fun H k => W.indexAddr 1 v92 (.int .i64 0) H k) H fun v93 H =>
        W.guarded v91 false (fun H k => W.get v93 H k) H fun v94 H =>
        W.guarded v91 false (fun H k => k v4 H) H fun v95 H =>
        W.guarded v91 false (fun H k => W.bin .neq v94 v95 H k) H fun v96 H =>
        W.pick v91 (.bool true) v96 H fun v97 H =>
        W.cond v97 H
        (fun H => Q (.bool false) H)
        (fun H => W.bin .eql v10 (.int .i64 0) H fun v98 H =>
         W.cond v98 H
         (fun H => W.call Try.prog (.func (.func 19) #[] #[]) #[v82, v87] H fun v99 H =>
          Q v99 H)
         (fun H => W.bin .eql v10 (.int .i64 1) H fun v100 H =>
          W.cond v100 H
          (fun H => W.call Try.prog (.func (.func 19) #[] #[]) #[v78, v87] H fun v101 H =>
           W.un .not v101 H fun v102 H =>
           Q v102 H)
          (fun H => W.loop (S := St [30, 31]) (fun I1 s H => f3.l1 Q v9 v87 v10 v78 I1 s.1 s.2.1 H) ((.int .i64 0), (.int .i64 0), ()) H)))))))))
theorem f3.enter {Q : Post} {code_0 : Value} {H : Heap} (h : f3.w Q code_0 H) : Runs Try.prog 3 #[code_0] H Q :=
  fn_enter (ann := [(34, [30, 31])]) (by kernel_rfl) Try.func3 rfl (by kernel_rfl) h (by kernel_rfl)


theorem law3 {H0 : Heap} {bs0 : List Nat} {v0 : Value} {x0 : List Int} (hr0 : RBytes.rel H0 bs0 [v0] x0) : Runs Try.prog 3 #[v0] H0 (fun v _ => v = .bool true) := by
  have hc : Has RBytes H0 [v0] x0 := ⟨bs0, hr0⟩
  refine f3.enter ?_
  unfold f3.w
  refine Wi.call (f5.enter (Wl.lenH hc ?_))
  generalize (4096 : Int) = top
  refine Wi.gtrC (fun _ => Wi.tru rfl) fun _ => Wi.fls ?_
  refine Wi.call (fn6 hc fun H u1 u2 p s rule f hp hI => ?_)
  have h := (Loc.start H0).add f
  have kp := (h.rd (cs := [u1, u2]) (r := RProblem)).cell
  simp only [gw]
  refine Wl.new h fun H b6 h => Wl.putA h rfl rfl kp fun H h => Wl.getA h rfl (Wi.call (fn7 (h.rd (cs := [u1, u2])) fun H v9 f => ?_))
  have h := h.add f
  simp only [gw]
  refine Wl.getA h rfl (Wi.call (fn8 (h.rd (cs := [u1, u2])) fun H v14 f => ?_))
  have h := h.add f
  simp only [gw]
  refine Wi.neqC (fun g => absurd rfl g) fun _ => ?_
  simp only [gw]
  refine Wi.call (fn9 (h.rd (cs := [v9])) (h.rd (cs := [v14])) ?_)
  rw [decide_eq_true rfl]
  simp only [gw]
  refine Wi.neqC (fun g => absurd rfl g) fun _ => ?_
  simp only [gw]
  -- the step
  refine Wi.call (fn10 (hc.le h.le) fun H w1 w2 q t r f _ _ => ?_)
  have h := h.add f
  have kq := (h.rd (cs := [w1, w2]) (r := RProblem)).cell
  simp only [gw]
  refine Wl.new h fun H b31 h => Wl.putA h rfl rfl kq fun H h => Wl.getA (b := b31) h rfl (Wi.call (fn11 (h.rd (cs := [w1, w2])) fun H l => ?_))
  have h := h.to l
  simp only [gw]
  refine Wl.getA (b := b31) h rfl (Wi.call (fn12 (h.rd (cs := [w1, w2])) fun H l => ?_))
  have h := h.to l
  simp only [gw]
  refine Wi.neqC (fun g => absurd rfl g) fun _ => ?_
  simp only [gw]
  refine Wi.neqC (fun g => absurd rfl g) fun _ => ?_
  simp only [gw]
  -- the ends
  refine Wi.call (fn13 (hc.le h.le) fun H x1 x2 u k f _ _ => ?_)
  have h := h.add f
  have ku := (h.rd (cs := [x1, x2]) (r := RProblem)).cell
  simp only [gw]
  refine Wl.new h fun H b48 h => Wl.putA h rfl rfl ku fun H h => Wl.getA (b := b48) h rfl (Wi.call (fn14 (h.rd (cs := [x1, x2])) fun H v51 f => ?_))
  have h := h.add f
  simp only [gw]
  refine Wl.getA (b := b48) h rfl (Wi.call (fn15 (h.rd (cs := [x1, x2])) fun H v55 f => ?_))
  have h := h.add f
  simp only [gw]
  refine Wi.neqC (fun g => absurd rfl g) fun _ => ?_
  simp only [gw]
  refine Wi.call (fn9 (h.rd (cs := [v51])) (h.rd (cs := [v55])) ?_)
  rw [decide_eq_true rfl]
  simp only [gw]
  -- what is left
  have rest : ∀ H, Ab.Loc H0 [.data RS [v55] (ceRes u k).1, .data RS [v51] (ceRes u k).1, .box b48 [x1, x2], .data RProblem [x1, x2] u, .box b31 [w1, w2], .data RProblem [w1, w2] q, .data RS [v14] (rnRes p s rule).1, .data RS [v9] (rnRes p s rule).1, .box b6 [u1, u2], .data RProblem [u1, u2] p] H →
      W.bin .neq (.int .i64 (rnRes p s rule).2.2) (.int .i64 0) H fun v73 H => W.cond v73 H
       (fun H => W.len v9 H fun v74 H => W.bin .eql v74 (.int .i64 0) H fun v75 H => (fun v _ => v = Value.bool true) v75 H)
       (fun H => W.getN 2 (pt b6 0) H fun v76 H => W.call Try.prog (.func (.func 17) #[] #[]) #[v76] H fun v77 H => W.extract 0 v77 H fun v78 H => W.extract 1 v77 H fun v79 H =>
        W.getN 2 (pt b6 0) H fun v80 H => W.call Try.prog (.func (.func 18) #[] #[]) #[v80] H fun v81 H => W.extract 0 v81 H fun v82 H => W.extract 1 v81 H fun v83 H =>
        W.len v9 H fun v84 H => W.bin .sub v84 (.int .i64 1) H fun v85 H => W.indexAddr 1 v9 v85 H fun v86 H => W.get v86 H fun v87 H =>
        W.bin .neq v79 (.int .i64 0) H fun v88 H =>
        W.guarded v88 false (fun H k => k v83 H) H fun v89 H =>
        W.guarded v88 false (fun H k => W.bin .neq v89 (.int .i64 0) H k) H fun v90 H =>
        W.pick v88 (.bool true) v90 H fun v91 H =>
        W.guarded v91 false (fun H k => k v9 H) H fun v92 H =>
        W.guarded v91 false (fun H k => W.indexAddr 1 v92 (.int .i64 0) H k) H fun v93 H =>
        W.guarded v91 false (fun H k => W.get v93 H k) H fun v94 H =>
        W.guarded v91 false (fun H k => k (.int .i64 s) H) H fun v95 H =>
        W.guarded v91 false (fun H k => W.bin .neq v94 v95 H k) H fun v96 H =>
        W.pick v91 (.bool true) v96 H fun v97 H =>
        W.cond v97 H
        (fun H => (fun v _ => v = Value.bool true) (.bool false) H)
        (fun H => W.bin .eql (.int .i64 (rnRes p s rule).2.1) (.int .i64 0) H fun v98 H => W.cond v98 H
         (fun H => W.call Try.prog (.func (.func 19) #[] #[]) #[v82, v87] H fun v99 H => (fun v _ => v = Value.bool true) v99 H)
         (fun H => W.bin .eql (.int .i64 (rnRes p s rule).2.1) (.int .i64 1) H fun v100 H => W.cond v100 H
          (fun H => W.call Try.prog (.func (.func 19) #[] #[]) #[v78, v87] H fun v101 H => W.un .not v101 H fun v102 H => (fun v _ => v = Value.bool true) v102 H)
          (fun H => W.loop (S := St [30, 31]) (fun I1 st H => f3.l1 (fun v _ => v = Value.bool true) v9 v87 (.int .i64 (rnRes p s rule).2.1) v78 I1 st.1 st.2.1 H) ((.int .i64 0), (.int .i64 0), ()) H)))) := fun H h => by
    by_cases he : ruC2 p s rule = 0
    case neg =>
      have e : rnRes p s rule = ([], 0, ruC2 p s rule) := by unfold rnRes; rw [if_neg he]
      rw [e] at h ⊢
      exact Wi.neqC (fun _ => Wi.tru (Wl.len (v := v9) (xs := ([] : List Int)) h (Wi.eqlC (fun _ => rfl) fun g => absurd rfl g))) fun g => absurd g he
    obtain ⟨hpr, hs, hru⟩ := ruC2_eq he
    obtain ⟨s0, rfl, hs0⟩ := setOk_ex hs
    obtain ⟨j, e, hre⟩ := run_exists (n := p.2.length) (p := p) (rule := rule) hs0
    have hR := rnRes_run he hre
    have h32 := pow5 (PB.of hpr).n5
    have hj : j < 2 ^ p.2.length + 1 := by
      rcases Nat.lt_or_ge j 1 with g | g
      · omega
      · have := run_short (n := p.2.length) (p := p) (rule := rule) (k := j - 1) hs0 fun i hi => hre.1 i (by omega)
        omega
    rw [hR] at h ⊢
    generalize hL : setsL ((List.range (j + 1)).map (ss p.2.length p rule s0)) = L at *
    have hLl : L.length = j + 1 := by rw [← hL]; simp [setsL]
    have hLat : ∀ i (hi : i < L.length), L[i] = (ss p.2.length p rule s0 i : Nat) := fun i hi => by simp [← hL, setsL]
    refine Wi.neqC (fun g => absurd rfl g) fun _ => Wi.fls ?_
    have eB : baRes p = (basTo p.2.length p (2 ^ p.2.length), 0) := by unfold baRes; rw [if_pos hpr]
    have eC : cvRes p = (covL p.2.length p, 0) := by unfold cvRes; rw [if_pos hpr]
    refine Wl.getA (b := b6) h rfl (Wi.call (fn17 (h.rd (cs := [u1, u2])) fun H v78 f => ?_))
    have h := h.add f
    rw [eB] at h ⊢
    simp only [gw]
    refine Wl.getA (b := b6) h rfl (Wi.call (fn18 (h.rd (cs := [u1, u2])) fun H v82 f => ?_))
    have h := h.add f
    rw [eC] at h ⊢
    simp only [gw]
    refine Wl.len (v := v9) (xs := L) h (Wi.sub (by unfold I64; omega) ?_)
    rw [show ((L.length : Nat) : Int) - 1 = (j : Nat) by omega]
    refine Wl.atInt (v := v9) (xs := L) (i := j) h (by omega) fun _ => ?_
    rw [hLat j (by omega)]
    have hss := ss_lt (n := p.2.length) (rule := rule) (p := p) hs0 j
    refine Wi.neqC (fun g => absurd rfl g) fun _ => ?_
    simp only [gw]
    refine Wi.neqC (fun g => absurd rfl g) fun _ => ?_
    simp only [gw]
    refine Wl.atInt (v := v9) (xs := L) (i := 0) h (by omega) fun _ => ?_
    rw [hLat 0 (by omega)]
    refine Wi.neqC (fun g => absurd rfl g) fun _ => ?_
    simp only [gw]
    refine Wi.eqlC (fun e0 => Wi.tru ?_) fun ne0 => Wi.fls (Wi.eqlC (fun e1 => Wi.tru ?_) fun ne1 => Wi.fls ?_)
    · subst e0
      refine Wi.call (fn19 (h.rd (cs := [v82])) ?_)
      rw [decide_eq_true (covL_mem.2 ⟨hss, run_solved hre⟩)]
    · subst e1
      refine Wi.call (fn19 (h.rd (cs := [v78])) ?_)
      rw [decide_eq_false (fun g => (basTo_mem.1 g).2 (run_stuck hre))]
      exact rfl
    · have he2 : e = 2 := by
        rcases cls_end hre.2 with g | g | g
        · exact absurd g ne0
        · exact absurd g ne1
        · exact g
      subst he2
      obtain ⟨hm, hD⟩ := run_met hre
      rw [hL] at hm
      refine W.for_rule L.length (fun i st H => st = (.int .i64 ((L.take i).count (ss p.2.length p rule s0 j : Int) : Nat), .int .i64 (i : Nat), ()) ∧ Ab.Loc H0 [.data RS [v82] (covL p.2.length p), .data RS [v78] (basTo p.2.length p (2 ^ p.2.length)), .data RS [v55] (ceRes u k).1, .data RS [v51] (ceRes u k).1, .box b48 [x1, x2], .data RProblem [x1, x2] u, .box b31 [w1, w2], .data RProblem [w1, w2] q, .data RS [v14] L, .data RS [v9] L, .box b6 [u1, u2], .data RProblem [u1, u2] p] H) ⟨rfl, h⟩ ?_
      rintro i st H J hi ⟨rfl, h⟩ hJ
      refine Wl.len (v := v9) (xs := L) h (Wi.lssC (fun hlt => Wi.tru ?_) fun hge => Wi.fls ?_)
      · have hiL : i < L.length := by omega
        have hct := List.count_le_length (a := (ss p.2.length p rule s0 j : Int)) (l := L.take i)
        have hcl : (L.take i).length ≤ i := by simp; omega
        have hI : I64 ((i : Int) + 1) := by unfold I64; omega
        refine Wl.atInt (v := v9) (xs := L) (i := i) h hiL fun _ => Wi.eqlC (fun he => Wi.tru ?_) fun hne => Wi.fls ?_
        · refine Wi.add (by unfold I64; omega) ?_
          unfold f3.j1
          refine Wi.add hI (hJ _ _ hiL ⟨?_, h⟩)
          rw [List.take_succ_eq_append_getElem hiL, List.count_append, he, List.count_singleton_self]
          rfl
        · unfold f3.j1
          refine Wi.add hI (hJ _ _ hiL ⟨?_, h⟩)
          rw [List.take_succ_eq_append_getElem hiL, List.count_append, List.count_singleton, if_neg (by simpa using hne)]
          rfl
      · have : i = L.length := by omega
        subst this
        rw [List.take_length, hm]
        refine Wi.eqlC (fun _ => ?_) fun g => absurd rfl g
        simp only [gw]
        refine Wi.eqlC (fun _ => ?_) fun g => absurd rfl g
        simp only [gw]
        refine Wi.call (fn19 (h.rd (cs := [v78])) ?_)
        rw [decide_eq_true (basTo_mem.2 ⟨hss, hD⟩)]
  refine Wi.eqlC (fun h0 => ?_) fun h0 => ?_
  · have hru0 : ruC u k = 0 := by
      unfold ceRes at h0
      by_cases g : ruC u k = 0
      · exact g
      · rw [if_neg g] at h0; exact absurd h0 g
    have eR : ceRes u k = (endL u k (2 ^ u.2.length), 0) := by unfold ceRes; rw [if_pos hru0]
    obtain ⟨hpr, hru⟩ := ruC_eq hru0
    have hn := (PB.of hpr).n5
    have h32 := pow5 hn
    have hsum := endL_sum (p := u) (rule := k) (N := 2 ^ u.2.length) fun x hx => run_exists hx
    have g0 := endTo_le u k 0 (2 ^ u.2.length)
    have g1 := endTo_le u k 1 (2 ^ u.2.length)
    have g2 := endTo_le u k 2 (2 ^ u.2.length)
    have hxl : Has RS H [x2] u.2 := by
      obtain ⟨y1, y2, e, r1, r2⟩ := hasProb (h.rd (cs := [x1, x2]) (r := RProblem))
      simp only [List.cons.injEq, and_true] at e
      rw [e.2]
      exact r2
    have es : (ceRes u k).1.sum = ((2 ^ u.2.length : Nat) : Int) := by
      rw [eR]
      simp only [endL, List.sum_cons, List.sum_nil]
      omega
    simp only [gw]
    refine Wi.callQ (fn16 (h.rd (cs := [v51])) (fun i hi => ?_) ⟨.refl _, ?_⟩)
    · rw [eR] at hi ⊢
      simp only [endL] at hi ⊢
      have : i = 0 ∨ i = 1 ∨ i = 2 ∨ i = 3 := by simp at hi; omega
      unfold I64
      rcases this with rfl | rfl | rfl | rfl <;> simp <;> omega
    · rw [es]
      refine Wi.fieldAddr (Wl.get (b := b48) (o := 1) h rfl (Wl.lenH hxl (Wi.convN (by omega) (Wi.shl1 (by omega) (Wi.neqC (fun g => absurd rfl g) fun _ => ?_)))))
      simp only [gw]
      exact rest _ h
  · simp only [gw]
    exact rest _ h

end Go.Proofs.Ythfcodelpebjcaa
