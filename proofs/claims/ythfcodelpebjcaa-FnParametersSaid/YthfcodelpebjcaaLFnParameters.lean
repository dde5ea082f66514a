/- The law FnParameters answers true on any abstract heap that holds its code. No condition. -/
import Derived.Test.YthfcodelpebjcaaPR0
import Derived.Test.YthfcodelpebjcaaGDR
import Derived.Test.YthfcodelpebjcaaRU2
namespace Go.Proofs.Ythfcodelpebjcaa
open Go.Ab

/- loop.example/g01343/laws.FnParameters -/
def f4.j3 (Q : Post) (i_31 : Value) (I2 : St [31] → Heap → Prop) (H : Heap) : Prop :=
  W.bin .add i_31 (.int .i64 1) H fun v133 H =>
  I2 (v133, ()) H
def f4.l2 (Q : Post) (v9 : Value) (I2 : St [31] → Heap → Prop) (i_31 : Value) (H : Heap) : Prop :=
  W.len v9 H fun v114 H =>
  W.bin .lss i_31 v114 H fun v115 H =>
  W.cond v115 H
  (fun H => W.indexAddr 2 v9 i_31 H fun v116 H =>
   W.fieldAddr 0 v116 H fun v117 H =>
   W.get v117 H fun v118 H =>
   W.bin .leq v118 (.int .i64 0) H fun v119 H =>
   W.cond v119 H
   (fun H => Q (.bool false) H)
   (fun H => W.bin .gtr i_31 (.int .i64 0) H fun v120 H =>
    W.cond v120 H
    (fun H => W.bin .sub i_31 (.int .i64 1) H fun v121 H =>
     W.indexAddr 2 v9 v121 H fun v122 H =>
     W.getN 2 v122 H fun v123 H =>
     W.indexAddr 2 v9 i_31 H fun v124 H =>
     W.getN 2 v124 H fun v125 H =>
     W.callQ Try.prog (.func (.func 31) #[] #[]) #[v123, v125] H fun v126 H =>
     W.extract 0 v126 H fun v127 H =>
     W.extract 1 v126 H fun v128 H =>
     W.bin .neq v128 (.int .i64 0) H fun v129 H =>
     W.guarded v129 false (fun H k => k v127 H) H fun v130 H =>
     W.guarded v129 false (fun H k => W.bin .neq v130 (.int .i64 (-1)) H k) H fun v131 H =>
     W.pick v129 (.bool true) v131 H fun v132 H =>
     W.cond v132 H
     (fun H => Q (.bool false) H)
     (fun H => f4.j3 Q i_31 I2 H))
    (fun H => f4.j3 Q i_31 I2 H)))
  (fun H => Q (.bool true) H)
def f4.j2 (Q : Post) (v10 : Value) (v8 : Value) (v9 : Value) (H : Heap) : Prop :=
  W.bin .neq v10 (.int .i64 0) H fun v103 H =>
  W.cond v103 H
  (fun H => W.len v8 H fun v104 H =>
   W.bin .eql v104 (.int .i64 0) H fun v105 H =>
   W.guarded v105 true (fun H k => k v9 H) H fun v106 H =>
   W.guarded v105 true (fun H k => W.len v106 H k) H fun v107 H =>
   W.guarded v105 true (fun H k => W.bin .eql v107 (.int .i64 0) H k) H fun v108 H =>
   W.pick v105 v108 (.bool false) H fun v109 H =>
   Q v109 H)
  (fun H => W.len v8 H fun v110 H =>
   W.len v9 H fun v111 H =>
   W.bin .add v111 (.int .i64 1) H fun v112 H =>
   W.bin .neq v110 v112 H fun v113 H =>
   W.cond v113 H
   (fun H => Q (.bool false) H)
   (fun H => W.loop (S := St [31]) (fun I2 s H => f4.l2 Q v9 I2 s.1 H) ((.int .i64 0), ()) H))
def f4.j1 (Q : Post) (v38 : Value) (v33 : Value) (v32 : Value) (v29 : Value) (v37 : Value) (v10 : Value) (v8 : Value) (v9 : Value) (H : Heap) : Prop :=
  W.bin .eql v38 (.int .i64 0) H fun v88 H =>
  W.guarded v88 true (fun H k => W.fieldAddr 0 v33 H k) H fun v89 H =>
  W.guarded v88 true (fun H k => W.get v89 H k) H fun v90 H =>
  W.guarded v88 true (fun H k => W.bin .eql v90 (.int .i64 0) H k) H fun v91 H =>
  W.pick v88 v91 (.bool false) H fun v92 H =>
  W.cond v92 H
  (fun H => W.getN 2 v32 H fun v93 H =>
   W.call Try.prog (.func (.func 30) #[] #[]) #[v93, v29] H fun v94 H =>
   W.extract 0 v94 H fun v95 H =>
   W.extract 1 v94 H fun v96 H =>
   W.bin .neq v96 (.int .i64 0) H fun v97 H =>
   W.guarded v97 false (fun H k => k v95 H) H fun v98 H =>
   W.guarded v97 false (fun H k => k v37 H) H fun v99 H =>
   W.guarded v97 false (fun H k => W.call Try.prog (.func (.func 23) #[] #[]) #[v98, v99] H k) H fun v100 H =>
   W.guarded v97 false (fun H k => W.un .not v100 H k) H fun v101 H =>
   W.pick v97 (.bool true) v101 H fun v102 H =>
   W.cond v102 H
   (fun H => Q (.bool false) H)
   (fun H => f4.j2 Q v10 v8 v9 H))
  (fun H => f4.j2 Q v10 v8 v9 H)
def f4.l1 (Q : Post) (v75 : Value) (v38 : Value) (v33 : Value) (v32 : Value) (v29 : Value) (v37 : Value) (v10 : Value) (v8 : Value) (v9 : Value) (I1 : St [28] → Heap → Prop) (i_28 : Value) (H : Heap) : Prop :=
  W.len v75 H fun v81 H =>
  W.bin .lss i_28 v81 H fun v82 H =>
  W.cond v82 H
  (fun H => W.indexAddr 2 v75 i_28 H fun v83 H =>
   W.fieldAddr 0 v83 H fun v84 H =>
   W.get v84 H fun v85 H =>
   W.bin .lss v85 (.int .i64 0) H fun v86 H =>
   W.cond v86 H
   (fun H => Q (.bool false) H)
   (fun H => W.bin .add i_28 (.int .i64 1) H fun v87 H =>
    I1 (v87, ()) H))
  (fun H => f4.j1 Q v38 v33 v32 v29 v37 v10 v8 v9 H)
def f4.w (Q : Post) (code_0 : Value) (H : Heap) : Prop :=
  W.call Try.prog (.func (.func 5) #[] #[]) #[code_0] H fun v1 H =>
  W.cond v1 H
  (fun H => Q (.bool true) H)
  (fun H => W.call Try.prog (.func (.func 20) #[] #[]) #[code_0] H fun v2 H =>
   W.extract 0 v2 H fun v3 H =>
   W.extract 1 v2 H fun v4 H =>
   W.new [(.slice none 0 0), (.slice none 0 0)] 27 H fun v5 H =>
   W.putN 2 v5 v3 H fun _ H =>
   W.getN 2 v5 H fun v6 H =>
   W.call Try.prog (.func (.func 21) #[] #[]) #[v6, v4] H fun v7 H =>
   W.extract 0 v7 H fun v8 H =>
   W.extract 1 v7 H fun v9 H =>
   W.extract 2 v7 H fun v10 H =>
   W.getN 2 v5 H fun v11 H =>
   W.call Try.prog (.func (.func 22) #[] #[]) #[v11, v4] H fun v12 H =>
   W.extract 0 v12 H fun v13 H =>
   W.extract 1 v12 H fun v14 H =>
   W.extract 2 v12 H fun v15 H =>
   W.bin .neq v10 v15 H fun v16 H =>
   W.guarded v16 false (fun H k => k v8 H) H fun v17 H =>
   W.guarded v16 false (fun H k => k v13 H) H fun v18 H =>
   W.guarded v16 false (fun H k => W.call Try.prog (.func (.func 9) #[] #[]) #[v17, v18] H k) H fun v19 H =>
   W.guarded v16 false (fun H k => W.un .not v19 H k) H fun v20 H =>
   W.pick v16 (.bool true) v20 H fun v21 H =>
   W.guarded v21 false (fun H k => k v9 H) H fun v22 H =>
   W.guarded v21 false (fun H k => k v14 H) H fun v23 H =>
   W.guarded v21 false (fun H k => W.call Try.prog (.func (.func 23) #[] #[]) #[v22, v23] H k) H fun v24 H =>
   W.guarded v21 false (fun H k => W.un .not v24 H k) H fun v25 H =>
   W.pick v21 (.bool true) v25 H fun v26 H =>
   W.cond v26 H
   (fun H => Q (.bool false) H)
   (fun H => W.call Try.prog (.func (.func 24) #[] #[]) #[code_0] H fun v27 H =>
    W.extract 0 v27 H fun v28 H =>
    W.extract 1 v27 H fun v29 H =>
    W.extract 2 v27 H fun v30 H =>
    W.extract 3 v27 H fun v31 H =>
    W.new [(.slice none 0 0), (.slice none 0 0)] 27 H fun v32 H =>
    W.new [(.int .i64 0), (.int .i64 0)] 50 H fun v33 H =>
    W.putN 2 v32 v28 H fun _ H =>
    W.putN 2 v33 v31 H fun _ H =>
    W.getN 2 v32 H fun v34 H =>
    W.getN 2 v33 H fun v35 H =>
    W.call Try.prog (.func (.func 25) #[] #[]) #[v34, v29, v30, v35] H fun v36 H =>
    W.extract 0 v36 H fun v37 H =>
    W.extract 1 v36 H fun v38 H =>
    W.getN 2 v32 H fun v39 H =>
    W.getN 2 v33 H fun v40 H =>
    W.call Try.prog (.func (.func 26) #[] #[]) #[v39, v29, v30, v40] H fun v41 H =>
    W.extract 0 v41 H fun v42 H =>
    W.extract 1 v41 H fun v43 H =>
    W.bin .neq v38 v43 H fun v44 H =>
    W.guarded v44 false (fun H k => k v37 H) H fun v45 H =>
    W.guarded v44 false (fun H k => k v42 H) H fun v46 H =>
    W.guarded v44 false (fun H k => W.call Try.prog (.func (.func 23) #[] #[]) #[v45, v46] H k) H fun v47 H =>
    W.guarded v44 false (fun H k => W.un .not v47 H k) H fun v48 H =>
    W.pick v44 (.bool true) v48 H fun v49 H =>
    W.cond v49 H
    (fun H => Q (.bool false) H)
    (fun H => W.call Try.prog (.func (.func 27) #[] #[]) #[code_0] H fun v50 H =>
     W.extract 0 v50 H fun v51 H =>
     W.extract 1 v50 H fun v52 H =>
     W.extract 2 v50 H fun v53 H =>
     W.new [(.slice none 0 0), (.slice none 0 0)] 27 H fun v54 H =>
     W.new [(.int .i64 0), (.int .i64 0)] 50 H fun v55 H =>
     W.putN 2 v54 v51 H fun _ H =>
     W.putN 2 v55 v53 H fun _ H =>
     W.getN 2 v54 H fun v56 H =>
     W.getN 2 v55 H fun v57 H =>
     W.call Try.prog (.func (.func 28) #[] #[]) #[v56, v52, v57] H fun v58 H =>
     W.extract 0 v58 H fun v59 H =>
     W.extract 1 v58 H fun v60 H =>
     W.getN 2 v54 H fun v61 H =>
     W.getN 2 v55 H fun v62 H =>
     W.call Try.prog (.func (.func 29) #[] #[]) #[v61, v52, v62] H fun v63 H =>
     W.extract 0 v63 H fun v64 H =>
     W.extract 1 v63 H fun v65 H =>
     W.bin .neq v60 v65 H fun v66 H =>
     W.guarded v66 false (fun H k => k v59 H) H fun v67 H =>
     W.guarded v66 false (fun H k => k v64 H) H fun v68 H =>
     W.guarded v66 false (fun H k => W.bin .neq v67 v68 H k) H fun v69 H =>
     W.pick v66 (.bool true) v69 H fun v70 H =>
     W.cond v70 H
     (fun H => Q (.bool false) H)
     (fun H => W.bin .eql v60 (.int .i64 0) H fun v71 H =>
      W.cond v71 H
      (fun H => W.getN 2 v54 H fun v72 H =>
       W.getN 2 v55 H fun v73 H =>
       W.call Try.prog (.func (.func 25) #[] #[]) #[v72, v59, v52, v73] H fun v74 H =>
       W.extract 0 v74 H fun v75 H =>
       W.extract 1 v74 H fun v76 H =>
       W.bin .neq v76 (.int .i64 3) H fun v77 H =>
       W.guarded v77 true (fun H k => k v76 H) H fun v78 H =>
       W.guarded v77 true (fun H k => W.bin .neq v78 (.int .i64 0) H k) H fun v79 H =>
       W.pick v77 v79 (.bool false) H fun v80 H =>
       W.cond v80 H
       (fun H => Q (.bool false) H)
       (fun H => W.loop (S := St [28]) (fun I1 s H => f4.l1 Q v75 v38 v33 v32 v29 v37 v10 v8 v9 I1 s.1 H) ((.int .i64 0), ()) H))
      (fun H => f4.j1 Q v38 v33 v32 v29 v37 v10 v8 v9 H)))))
theorem f4.enter {Q : Post} {code_0 : Value} {H : Heap} (h : f4.w Q code_0 H) : Runs Try.prog 4 #[code_0] H Q :=
  fn_enter (ann := [(23, [28]), (36, [31])]) (by kernel_rfl) Try.func4 rfl (by kernel_rfl) h (by kernel_rfl)


theorem par_end {H0 H : Heap} {b33 b32 : Nat} {y1 y2 wf v37 v8 v9 : Value} {q p : Prob} {s : Int} {e d : List Int} {t : Frac}
    (h : Ab.Loc H0 [.data RFS [v37] (paRes q s e t).1, .box b33 (frC t), .box b32 [y1, y2], .data RProblem [y1, y2] q, .data RS [wf] e, .data RS [v8] (folRes p d).1, .data RFS [v9] (folRes p d).2.1] H) :
    f4.j1 (fun v _ => v = .bool true) (.int .i64 (paRes q s e t).2) (pt b33 0) (pt b32 0) (.int .i64 s) v37 (.int .i64 (folRes p d).2.2) v8 v9 H := by
  have fin : ∀ H, Ab.Loc H0 [.data RFS [v37] (paRes q s e t).1, .box b33 (frC t), .box b32 [y1, y2], .data RProblem [y1, y2] q, .data RS [wf] e, .data RS [v8] (folRes p d).1, .data RFS [v9] (folRes p d).2.1] H → f4.j2 (fun v _ => v = .bool true) (.int .i64 (folRes p d).2.2) v8 v9 H := fun H h => by
    unfold f4.j2
    have hok := folRes_ok p d
    refine Wi.neqC (fun hne => Wi.tru ?_) fun he => Wi.fls ?_
    · obtain ⟨e1, e2⟩ := hok.none hne
      rw [e1, e2] at h
      refine Wl.len (v := v8) (xs := ([] : List Int)) h (Wi.eqlC (fun _ => ?_) fun g => absurd rfl g)
      simp only [gw]
      refine Wl.len (v := v9) (xs := ([] : List Frac)) h (Wi.eqlC (fun _ => ?_) fun g => absurd rfl g)
      simp only [gw]
    · have hl := hok.one he
      have h40 := hok.breaks
      have hasc := fol_asc he
      have hlow := hok.low
      generalize folRes p d = R at *
      refine Wl.len (v := v8) (xs := R.1) h (Wl.len (v := v9) (xs := R.2.1) h (Wi.add (by unfold I64; omega) (Wi.neqC (fun g => absurd (by omega) g) fun _ => Wi.fls ?_)))
      refine W.for_rule R.2.1.length (fun i st H => st = (.int .i64 (i : Nat), ()) ∧ Ab.Loc H0 [.data RFS [v37] (paRes q s e t).1, .box b33 (frC t), .box b32 [y1, y2], .data RProblem [y1, y2] q, .data RS [wf] e, .data RS [v8] R.1, .data RFS [v9] R.2.1] H) ⟨rfl, h⟩ ?_
      rintro i st H J hi ⟨rfl, h⟩ hJ
      refine Wl.len (v := v9) (xs := R.2.1) h (Wi.lssC (fun hlt => Wi.tru ?_) fun _ => Wi.fls rfl)
      have hil : i < R.2.1.length := by omega
      have hI : I64 ((i : Int) + 1) := by unfold I64; omega
      refine Wl.numFr (v := v9) (xs := R.2.1) (i := i) h hil fun _ => Wi.leqC (fun g => absurd g (by have := asc_pos hasc hlow i hil; omega)) fun _ => Wi.fls (Wi.gtrC (fun hg => Wi.tru ?_) fun _ => Wi.fls ?_)
      · obtain ⟨k, rfl⟩ : ∃ k, i = k + 1 := ⟨i - 1, by omega⟩
        have hkl : k < R.2.1.length := by omega
        refine Wi.sub (by unfold I64; omega) ?_
        rw [show ((k + 1 : Nat) : Int) - 1 = (k : Nat) by omega]
        refine Wl.atFr (v := v9) (xs := R.2.1) (i := k) h hkl fun _ _ => Wl.atFr (v := v9) (xs := R.2.1) (i := k + 1) h hil fun _ _ => Wi.callQ (fn31 (low_fr (hlow _ (List.getElem_mem hkl))) (low_fr (hlow _ (List.getElem_mem hil))) fun H l => ⟨l, ?_⟩)
        have h := h.to l
        rw [asc_sg hasc hil]
        simp only [gw]
        refine Wi.neqC (fun g => absurd rfl g) fun _ => ?_
        simp only [gw]
        refine Wi.neqC (fun g => absurd rfl g) fun _ => ?_
        simp only [gw]
        unfold f4.j3
        exact Wi.add hI (hJ _ _ hil ⟨rfl, h⟩)
      · unfold f4.j3
        exact Wi.add hI (hJ _ _ hil ⟨rfl, h⟩)
  unfold f4.j1
  refine Wi.eqlC (fun h0 => ?_) fun h0 => ?_
  · simp only [gw]
    refine Wi.fieldAddr0 (Wl.get (b := b33) h rfl (Wi.eqlC (fun hz => ?_) fun hnz => ?_))
    · simp only [gw]
      refine Wl.getA (b := b32) h rfl (Wi.call (fn30 (h.rd (cs := [y1, y2])) fun H v95 f => ?_))
      rw [po_eq h0 hz] at f ⊢
      have h := h.add f
      simp only [gw]
      refine Wi.neqC (fun g => absurd h0 g) fun _ => ?_
      simp only [gw]
      refine Wi.call (fn23 (h.rd (cs := [v95])) (h.rd (cs := [v37])) ?_)
      rw [decide_eq_true rfl]
      simp only [gw]
      exact fin _ h.tl
    · simp only [gw]
      exact fin _ h
  · simp only [gw]
    exact fin _ h

theorem SmallP.w {p : Prob} (h : SmallP p) : wProblem p ≤ 1048576 := by
  obtain ⟨h1, h2, h3⟩ := h
  have := szl_le (w := List.length) (c := 6) p.1 h2
  simp only [szp, wl]
  omega

theorem law4 {H0 : Heap} {bs0 : List Nat} {v0 : Value} {x0 : List Int} (hr0 : RBytes.rel H0 bs0 [v0] x0) : Runs Try.prog 4 #[v0] H0 (fun v _ => v = .bool true) := by
  have hc : Has RBytes H0 [v0] x0 := ⟨bs0, hr0⟩
  refine f4.enter ?_
  unfold f4.w
  refine Wi.call (f5.enter (Wl.lenH hc ?_))
  generalize (4096 : Int) = top
  refine Wi.gtrC (fun _ => Wi.tru rfl) fun _ => Wi.fls ?_
  -- the way
  refine Wi.call (fn20 hc fun H u1 u2 w p d f hp hd => ?_)
  have h := (Loc.start H0).add2 (r := RProblem) (s := RS) (c1 := [u1, u2]) (c2 := [w]) rfl f
  have kp := (h.rd (cs := [u1, u2]) (r := RProblem)).cell
  simp only [gw]
  refine Wl.new h fun H b5 h => Wl.putA h rfl rfl kp fun H h => Wl.getA (b := b5) h rfl (Wi.call (fn21 (h.rd (cs := [u1, u2])) (h.rd (cs := [w])) hp.w (by omega) fun H v8 v9 f => ?_))
  have h := h.add2 (c1 := [v8]) (c2 := [v9]) rfl f
  simp only [gw]
  refine Wl.getA (b := b5) h rfl (Wi.call (fn22 (h.rd (cs := [u1, u2])) (h.rd (cs := [w])) hp.w (by omega) fun H v13 v14 f => ?_))
  have h := h.add2 (c1 := [v13]) (c2 := [v14]) rfl f
  simp only [gw]
  refine Wi.neqC (fun g => absurd rfl g) fun _ => ?_
  simp only [gw]
  refine Wi.call (fn9 (h.rd (cs := [v8])) (h.rd (cs := [v13])) ?_)
  rw [decide_eq_true rfl]
  simp only [gw]
  refine Wi.call (fn23 (h.rd (cs := [v9])) (h.rd (cs := [v14])) ?_)
  rw [decide_eq_true rfl]
  simp only [gw]
  have h : Ab.Loc H0 [.data RS [v13] (folRes p d).1, .data RFS [v14] (folRes p d).2.1, .data RS [v8] (folRes p d).1, .data RFS [v9] (folRes p d).2.1, .box b5 [u1, u2], .data RProblem [u1, u2] p, .data RS [w] d] _ := h
  have h := (h.cut 0).cut 0
  -- the point
  refine Wi.call (fn24 (hc.le h.le) fun H y1 y2 wf q s e t f hq he hs ht => ?_)
  have h := h.add2 (r := RProblem) (s := RS) (c1 := [y1, y2]) (c2 := [wf]) rfl f
  have kq := (h.rd (cs := [y1, y2]) (r := RProblem)).cell
  simp only [gw]
  refine Wl.new h fun H b32 h => Wl.new h fun H b33 h => Wl.putA (b := b32) h rfl rfl kq fun H h => Wl.putA (b := b33) h rfl rfl rfl fun H h => ?_
  refine Wl.getA (b := b32) h rfl (Wl.getA (b := b33) h rfl (Wi.call (fn25 (h.rd (cs := [y1, y2])) hs (h.rd (cs := [wf])) ⟨[], frac_rel ht H⟩ hq.w (by omega) fun H v37 f => ?_)))
  have h := h.add f
  simp only [gw]
  refine Wl.getA (b := b32) h rfl (Wl.getA (b := b33) h rfl (Wi.call (fn26 (h.rd (cs := [y1, y2])) hs (h.rd (cs := [wf])) ⟨[], frac_rel ht H⟩ hq.w (by omega) fun H v42 f => ?_)))
  have h := h.add f
  simp only [gw]
  refine Wi.neqC (fun g => absurd rfl g) fun _ => ?_
  simp only [gw]
  refine Wi.call (fn23 (h.rd (cs := [v37])) (h.rd (cs := [v42])) ?_)
  rw [decide_eq_true rfl]
  simp only [gw]
  have h : Ab.Loc H0 [.data RFS [v42] (paRes q s e t).1, .data RFS [v37] (paRes q s e t).1, .box b33 (frC t), .box b32 [y1, y2], .data RProblem [y1, y2] q, .data RS [wf] e, .data RS [v8] (folRes p d).1, .data RFS [v9] (folRes p d).2.1, .box b5 [u1, u2], .data RProblem [u1, u2] p, .data RS [w] d] _ := h
  have h := (((h.cut 0).cut 7).cut 7).cut 7
  have h : Ab.Loc H0 [.data RFS [v37] (paRes q s e t).1, .box b33 (frC t), .box b32 [y1, y2], .data RProblem [y1, y2] q, .data RS [wf] e, .data RS [v8] (folRes p d).1, .data RFS [v9] (folRes p d).2.1] _ := h
  -- the set
  refine Wi.call (fn27 (hc.le h.le) fun H z1 z2 wg r g t2 f hr hg ht2 => ?_)
  have h := h.add2 (r := RProblem) (s := RS) (c1 := [z1, z2]) (c2 := [wg]) rfl f
  have kr := (h.rd (cs := [z1, z2]) (r := RProblem)).cell
  simp only [gw]
  refine Wl.new h fun H b54 h => Wl.new h fun H b55 h => Wl.putA (b := b54) h rfl rfl kr fun H h => Wl.putA (b := b55) h rfl rfl rfl fun H h => ?_
  refine Wl.getA (b := b54) h rfl (Wl.getA (b := b55) h rfl (Wi.call (fn28 (h.rd (cs := [z1, z2])) (h.rd (cs := [wg])) ⟨[], frac_rel ht2 H⟩ hr.w (by omega) fun H l => ?_)))
  have h := h.to l
  simp only [gw]
  refine Wl.getA (b := b54) h rfl (Wl.getA (b := b55) h rfl (Wi.call (fn29 (h.rd (cs := [z1, z2])) (h.rd (cs := [wg])) ⟨[], frac_rel ht2 H⟩ hr.w (by omega) fun H l => ?_)))
  have h := h.to l
  simp only [gw]
  refine Wi.neqC (fun g => absurd rfl g) fun _ => ?_
  simp only [gw]
  refine Wi.neqC (fun g => absurd rfl g) fun _ => ?_
  simp only [gw]
  refine Wi.eqlC (fun h0 => Wi.tru ?_) fun h0 => Wi.fls (par_end (wf := wf) (y1 := y1) (y2 := y2) h.tl.tl.tl.tl)
  obtain ⟨s1, s2, s3⟩ := sa_good h0
  refine Wl.getA (b := b54) h rfl (Wl.getA (b := b55) h rfl (Wi.call (fn25 (h.rd (cs := [z1, z2])) s1 (h.rd (cs := [wg])) ⟨[], frac_rel ht2 H⟩ hr.w (by omega) fun H v75 f => ?_)))
  have h := h.add f
  simp only [gw]
  have go : ∀ H, Ab.Loc H0 [.data RFS [v75] (paRes r (saRes r g t2).1 g t2).1, .box b55 (frC t2), .box b54 [z1, z2], .data RProblem [z1, z2] r, .data RS [wg] g, .data RFS [v37] (paRes q s e t).1, .box b33 (frC t), .box b32 [y1, y2], .data RProblem [y1, y2] q, .data RS [wf] e, .data RS [v8] (folRes p d).1, .data RFS [v9] (folRes p d).2.1] H →
      W.loop (S := St [28]) (fun I1 s' H => f4.l1 (fun v _ => v = .bool true) v75 (.int .i64 (paRes q s e t).2) (pt b33 0) (pt b32 0) (.int .i64 s) v37 (.int .i64 (folRes p d).2.2) v8 v9 I1 s'.1 H) ((.int .i64 0), ()) H := fun H h => by
    have hsm := (h.rd (cs := [v75]) (r := RFS)).small
    refine W.for_rule (paRes r (saRes r g t2).1 g t2).1.length (fun i st H => st = (.int .i64 (i : Nat), ()) ∧ Ab.Loc H0 [.data RFS [v75] (paRes r (saRes r g t2).1 g t2).1, .box b55 (frC t2), .box b54 [z1, z2], .data RProblem [z1, z2] r, .data RS [wg] g, .data RFS [v37] (paRes q s e t).1, .box b33 (frC t), .box b32 [y1, y2], .data RProblem [y1, y2] q, .data RS [wf] e, .data RS [v8] (folRes p d).1, .data RFS [v9] (folRes p d).2.1] H) ⟨rfl, h⟩ ?_
    rintro i st H J hi ⟨rfl, h⟩ hJ
    refine Wl.len (v := v75) (xs := (paRes r (saRes r g t2).1 g t2).1) h (Wi.lssC (fun hlt => Wi.tru ?_) fun _ => Wi.fls (par_end (wf := wf) (y1 := y1) (y2 := y2) h.tl.tl.tl.tl.tl))
    have hil : i < (paRes r (saRes r g t2).1 g t2).1.length := by omega
    exact Wl.numFr (v := v75) (xs := (paRes r (saRes r g t2).1 g t2).1) (i := i) h hil fun _ => Wi.lssC (fun g1 => absurd (s3 _ (List.getElem_mem hil)) (by omega)) fun _ => Wi.fls (Wi.add (by unfold I64; omega) (hJ _ _ hil ⟨rfl, h⟩))
  rcases s2 with e0 | e3
  · rw [e0]
    refine Wi.neqC (fun _ => ?_) fun g => absurd g (by decide)
    simp only [gw]
    refine Wi.neqC (fun g => absurd rfl g) fun _ => ?_
    simp only [gw]
    exact go _ h
  · rw [e3]
    refine Wi.neqC (fun g => absurd rfl g) fun _ => ?_
    simp only [gw]
    exact go _ h

end Go.Proofs.Ythfcodelpebjcaa
