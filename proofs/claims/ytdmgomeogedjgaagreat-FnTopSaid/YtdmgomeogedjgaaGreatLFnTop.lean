/- The law FnTop answers true on any abstract heap that holds its code. No condition. -/
import Derived.Test.YtdmgomeogedjgaaGreatSO3
import Derived.Test.YtdmgomeogedjgaaGreatSO6
import Derived.Test.YtdmgomeogedjgaaGreatTP0
import Derived.Test.YtdmgomeogedjgaaGreatTP1
import Derived.Test.YtdmgomeogedjgaaGreatIK0
import Derived.Test.YtdmgomeogedjgaaGreatDI0
namespace Go.Proofs.YtdmgomeogedjgaaGreat
open Go.Ab

/- loop.example/g01343/laws.FnTop -/
def f3.j1 (Q : Post) (total_8 : Value) (row_7 : Value) (k_9 : Value) (I2 : St [7, 8, 9] → Heap → Prop) (own_10 : Value) (H : Heap) : Prop :=
  W.un .neg own_10 H fun v15 H =>
  W.max2 own_10 v15 H fun v16 H =>
  W.bin .add total_8 v16 H fun v17 H =>
  W.lit 1 [(.int .i64 0)] 2 [(0, 1, own_10)] H fun v18 H =>
  W.append 1 2 row_7 v18 H fun v19 H =>
  W.bin .add k_9 (.int .i64 1) H fun v20 H =>
  I2 (v19, v17, v20, ()) H
def f3.l2 (Q : Post) (v4 : Value) (v2 : Value) (i_6 : Value) (v8 : Value) (I1 : St [6] → Heap → Prop) (I2 : St [7, 8, 9] → Heap → Prop) (row_7 : Value) (total_8 : Value) (k_9 : Value) (H : Heap) : Prop :=
  W.bin .lss k_9 v4 H fun v11 H =>
  W.cond v11 H
  (fun H => W.call Tryz.prog (.func (.func 7) #[] #[]) #[v2, (.int .i64 5)] H fun v12 H =>
   W.bin .sub v12 (.int .i64 2) H fun v13 H =>
   W.bin .eql i_6 k_9 H fun v14 H =>
   W.cond v14 H
   (fun H => f3.j1 Q total_8 row_7 k_9 I2 (.int .i64 0) H)
   (fun H => f3.j1 Q total_8 row_7 k_9 I2 v13 H))
  (fun H => W.indexAddr 1 row_7 i_6 H fun v21 H =>
   W.put v21 total_8 H fun _ H =>
   W.fieldAddr 0 v8 H fun v22 H =>
   W.get v22 H fun v23 H =>
   W.lit 1 [(.slice none 0 0)] 29 [(0, 1, row_7)] H fun v24 H =>
   W.append 1 29 v23 v24 H fun v25 H =>
   W.fieldAddr 0 v8 H fun v26 H =>
   W.put v26 v25 H fun _ H =>
   W.fieldAddr 1 v8 H fun v27 H =>
   W.get v27 H fun v28 H =>
   W.call Tryz.prog (.func (.func 7) #[] #[]) #[v2, (.int .i64 21)] H fun v29 H =>
   W.chk (fun H k => W.get v27 H k) v28 H (W.bin .sub v29 (.int .i64 10) H fun v30 H =>
   W.lit 1 [(.int .i64 0)] 2 [(0, 1, v30)] H fun v31 H =>
   W.append 1 2 v28 v31 H fun v32 H =>
   W.fieldAddr 1 v8 H fun v33 H =>
   W.put v33 v32 H fun _ H =>
   W.bin .add i_6 (.int .i64 1) H fun v34 H =>
   I1 (v34, ()) H))
def f3.l4 (Q : Post) (v109 : Value) (i_23 : Value) (I3 : St [23] → Heap → Prop) (I4 : St [26] → Heap → Prop) (k_26 : Value) (H : Heap) : Prop :=
  W.fieldAddr 2 v109 H fun v117 H =>
  W.get v117 H fun v118 H =>
  W.len v118 H fun v119 H =>
  W.bin .lss k_26 v119 H fun v120 H =>
  W.cond v120 H
  (fun H => W.fieldAddr 2 v109 H fun v121 H =>
   W.get v121 H fun v122 H =>
   W.indexAddr 1 v122 k_26 H fun v123 H =>
   W.get v123 H fun v124 H =>
   W.bin .lss v124 (.int .i64 0) H fun v125 H =>
   W.cond v125 H
   (fun H => Q (.bool false) H)
   (fun H => W.bin .add k_26 (.int .i64 1) H fun v126 H =>
    I4 (v126, ()) H))
  (fun H => W.bin .add i_23 (.int .i64 1) H fun v127 H =>
   I3 (v127, ()) H)
def f3.l3 (Q : Post) (v94 : Value) (v8 : Value) (v4 : Value) (I3 : St [23] → Heap → Prop) (i_23 : Value) (H : Heap) : Prop :=
  W.len v94 H fun v101 H =>
  W.bin .lss i_23 v101 H fun v102 H =>
  W.cond v102 H
  (fun H => W.getN 2 v8 H fun v103 H =>
   W.indexAddr 1 v94 i_23 H fun v104 H =>
   W.get v104 H fun v105 H =>
   W.callQ Tryz.prog (.func (.func 16) #[] #[]) #[v103, v105] H fun v106 H =>
   W.extract 0 v106 H fun v107 H =>
   W.extract 1 v106 H fun v108 H =>
   W.new [(.int .i64 0), (.slice none 0 0), (.slice none 0 0)] 45 H fun v109 H =>
   W.putN 3 v109 v107 H fun _ H =>
   W.bin .neq v108 (.int .i64 0) H fun v110 H =>
   W.guarded v110 false (fun H k => W.fieldAddr 2 v109 H k) H fun v111 H =>
   W.guarded v110 false (fun H k => W.get v111 H k) H fun v112 H =>
   W.guarded v110 false (fun H k => W.len v112 H k) H fun v113 H =>
   W.guarded v110 false (fun H k => k v4 H) H fun v114 H =>
   W.guarded v110 false (fun H k => W.bin .neq v113 v114 H k) H fun v115 H =>
   W.pick v110 (.bool true) v115 H fun v116 H =>
   W.cond v116 H
   (fun H => Q (.bool false) H)
   (fun H => W.loop (S := St [26]) (fun I4 s H => f3.l4 Q v109 i_23 I3 I4 s.1 H) ((.int .i64 0), ()) H))
  (fun H => Q (.bool true) H)
def f3.l1 (Q : Post) (v4 : Value) (v2 : Value) (v8 : Value) (I1 : St [6] → Heap → Prop) (i_6 : Value) (H : Heap) : Prop :=
  W.bin .lss i_6 v4 H fun v9 H =>
  W.cond v9 H
  (fun H => W.lit 0 [(.int .i64 0)] 2 [] H fun v10 H =>
   W.loop (S := St [7, 8, 9]) (fun I2 s H => f3.l2 Q v4 v2 i_6 v8 I1 I2 s.1 s.2.1 s.2.2.1 H) (v10, (.int .i64 1), (.int .i64 0), ()) H)
  (fun H => W.getN 2 v8 H fun v35 H =>
   W.call Tryz.prog (.func (.func 8) #[] #[]) #[v35] H fun v36 H =>
   W.extract 0 v36 H fun v37 H =>
   W.extract 1 v36 H fun v38 H =>
   W.getN 2 v8 H fun v39 H =>
   W.call Tryz.prog (.func (.func 9) #[] #[]) #[v39] H fun v40 H =>
   W.extract 0 v40 H fun v41 H =>
   W.extract 1 v40 H fun v42 H =>
   W.bin .neq v38 v42 H fun v43 H =>
   W.guarded v43 false (fun H k => k v37 H) H fun v44 H =>
   W.guarded v43 false (fun H k => k v41 H) H fun v45 H =>
   W.guarded v43 false (fun H k => W.call Tryz.prog (.func (.func 10) #[] #[]) #[v44, v45] H k) H fun v46 H =>
   W.guarded v43 false (fun H k => W.un .not v46 H k) H fun v47 H =>
   W.pick v43 (.bool true) v47 H fun v48 H =>
   W.guarded v48 false (fun H k => k v38 H) H fun v49 H =>
   W.guarded v48 false (fun H k => W.bin .neq v49 (.int .i64 0) H k) H fun v50 H =>
   W.pick v48 (.bool true) v50 H fun v51 H =>
   W.guarded v51 false (fun H k => k v37 H) H fun v52 H =>
   W.guarded v51 false (fun H k => W.len v52 H k) H fun v53 H =>
   W.guarded v51 false (fun H k => W.bin .neq v53 (.int .i64 1) H k) H fun v54 H =>
   W.pick v51 (.bool true) v54 H fun v55 H =>
   W.cond v55 H
   (fun H => Q (.bool false) H)
   (fun H => W.fieldAddr 0 v8 H fun v56 H =>
    W.get v56 H fun v57 H =>
    W.call Tryz.prog (.func (.func 11) #[] #[]) #[v57, (.int .i64 0)] H fun v58 H =>
    W.extract 0 v58 H fun v59 H =>
    W.extract 1 v58 H fun v60 H =>
    W.getN 2 v8 H fun v61 H =>
    W.call Tryz.prog (.func (.func 12) #[] #[]) #[v61, (.int .i64 0)] H fun v62 H =>
    W.extract 0 v62 H fun v63 H =>
    W.extract 1 v62 H fun v64 H =>
    W.getN 2 v8 H fun v65 H =>
    W.call Tryz.prog (.func (.func 13) #[] #[]) #[v65, (.int .i64 0)] H fun v66 H =>
    W.extract 0 v66 H fun v67 H =>
    W.extract 1 v66 H fun v68 H =>
    W.bin .neq v60 (.int .i64 0) H fun v69 H =>
    W.guarded v69 false (fun H k => k v59 H) H fun v70 H =>
    W.guarded v69 false (fun H k => W.un .not v70 H k) H fun v71 H =>
    W.pick v69 (.bool true) v71 H fun v72 H =>
    W.guarded v72 false (fun H k => k v64 H) H fun v73 H =>
    W.guarded v72 false (fun H k => k v68 H) H fun v74 H =>
    W.guarded v72 false (fun H k => W.bin .neq v73 v74 H k) H fun v75 H =>
    W.pick v72 (.bool true) v75 H fun v76 H =>
    W.guarded v76 false (fun H k => k v63 H) H fun v77 H =>
    W.guarded v76 false (fun H k => k v67 H) H fun v78 H =>
    W.guarded v76 false (fun H k => W.call Tryz.prog (.func (.func 14) #[] #[]) #[v77, v78] H k) H fun v79 H =>
    W.guarded v76 false (fun H k => W.un .not v79 H k) H fun v80 H =>
    W.pick v76 (.bool true) v80 H fun v81 H =>
    W.guarded v81 false (fun H k => k v64 H) H fun v82 H =>
    W.guarded v81 false (fun H k => W.bin .neq v82 (.int .i64 0) H k) H fun v83 H =>
    W.pick v81 (.bool true) v83 H fun v84 H =>
    W.guarded v84 false (fun H k => k v63 H) H fun v85 H =>
    W.guarded v84 false (fun H k => k v37 H) H fun v86 H =>
    W.guarded v84 false (fun H k => W.indexAddr 1 v86 (.int .i64 0) H k) H fun v87 H =>
    W.guarded v84 false (fun H k => W.get v87 H k) H fun v88 H =>
    W.guarded v84 false (fun H k => W.call Tryz.prog (.func (.func 14) #[] #[]) #[v85, v88] H k) H fun v89 H =>
    W.guarded v84 false (fun H k => W.un .not v89 H k) H fun v90 H =>
    W.pick v84 (.bool true) v90 H fun v91 H =>
    W.cond v91 H
    (fun H => Q (.bool false) H)
    (fun H => W.getN 2 v8 H fun v92 H =>
     W.call Tryz.prog (.func (.func 15) #[] #[]) #[v92] H fun v93 H =>
     W.extract 0 v93 H fun v94 H =>
     W.extract 1 v93 H fun v95 H =>
     W.bin .neq v95 (.int .i64 0) H fun v96 H =>
     W.guarded v96 false (fun H k => k v94 H) H fun v97 H =>
     W.guarded v96 false (fun H k => W.len v97 H k) H fun v98 H =>
     W.guarded v96 false (fun H k => W.bin .eql v98 (.int .i64 0) H k) H fun v99 H =>
     W.pick v96 (.bool true) v99 H fun v100 H =>
     W.cond v100 H
     (fun H => Q (.bool false) H)
     (fun H => W.loop (S := St [23]) (fun I3 s H => f3.l3 Q v94 v8 v4 I3 s.1 H) ((.int .i64 0), ()) H))))
def f3.w (Q : Post) (code_0 : Value) (H : Heap) : Prop :=
  W.call Tryz.prog (.func (.func 5) #[] #[]) #[code_0] H fun v1 H =>
  W.cond v1 H
  (fun H => Q (.bool true) H)
  (fun H => W.call Tryz.prog (.func (.func 6) #[] #[]) #[code_0, (.int .u64 9973)] H fun v2 H =>
   W.call Tryz.prog (.func (.func 7) #[] #[]) #[v2, (.int .i64 4)] H fun v3 H =>
   W.bin .add (.int .i64 1) v3 H fun v4 H =>
   W.lit 0 [(.slice none 0 0)] 29 [] H fun v5 H =>
   W.lit 0 [(.int .i64 0)] 2 [] H fun v6 H =>
   W.build [(.slice none 0 0), (.slice none 0 0)] [(0, 1, v5), (1, 1, v6)] H fun v7 H =>
   W.new [(.slice none 0 0), (.slice none 0 0)] 31 H fun v8 H =>
   W.putN 2 v8 v7 H fun _ H =>
   W.loop (S := St [6]) (fun I1 s H => f3.l1 Q v4 v2 v8 I1 s.1 H) ((.int .i64 0), ()) H)
theorem f3.enter {Q : Post} {code_0 : Value} {H : Heap} (h : f3.w Q code_0 H) : Runs Tryz.prog 3 #[code_0] H Q :=
  fn_enter (ann := [(7, [6]), (11, [7, 8, 9]), (1000020, []), (34, [23]), (40, [26])]) (by kernel_rfl) Tryz.func3 rfl (by kernel_rfl) h (by kernel_rfl)

/- loop.example/g01343/laws.big -/
def f5.w (Q : Post) (code_0 : Value) (H : Heap) : Prop :=
  W.len code_0 H fun v1 H =>
  W.bin .gtr v1 (.int .i64 4096) H fun v2 H =>
  Q v2 H
theorem f5.enter {Q : Post} {code_0 : Value} {H : Heap} (h : f5.w Q code_0 H) : Runs Tryz.prog 5 #[code_0] H Q :=
  fn_enter (ann := []) (by kernel_rfl) Tryz.func5 rfl (by kernel_rfl) h (by kernel_rfl)


/-- Behind the loops: the law's tests. -/
theorem top_end {H0 H : Heap} {b8 : Nat} {u q : Value} {n : Nat} {m : List (List Int)} {ql : List Int} (hn : 1 ≤ n ∧ n ≤ 4) (hp : isProb (m, ql) = true) (hP : IsP ql.length m) (hql : ql.length = n)
    (h : Ab.Loc H0 [.box b8 [u, q], .data RProblem [u, q] (m, ql)] H) (d2 : Value) (J : Value → Heap → Prop) :
    f3.l1 (fun v _ => v = .bool true) (.int .i64 (n : Nat)) d2 (pt b8 0) (fun st => J st.1) (.int .i64 (n : Nat)) H := by
  obtain ⟨Z, s0, hs0, hc0, hall, hz, hsr⟩ := top_facts (p := (m, ql)) hp hP
  have hne : covN ql.length (m, ql) ≠ [] := fun g => by
    have : s0 ∈ covN ql.length (m, ql) := List.mem_filter.2 ⟨by simpa using hs0, hc0⟩
    rw [g] at this
    cases this
  have hZ : ∀ s ∈ covN ql.length (m, ql), solF ql.length (m, ql) s = Z := fun s hs => by
    obtain ⟨g1, g2⟩ := List.mem_filter.1 hs
    exact hall s (by simpa using g1) g2
  have h32 : 2 ^ ql.length ≤ 32 := pow5 (PB.of hp).n5
  have hpw : wProblem (m, ql) ≤ 1048576 := by
    obtain ⟨h1, h2, h3⟩ := mat_bound (m := m) (by
      unfold isProb at hp
      rw [Bool.and_eq_true, Bool.and_eq_true] at hp
      exact hp.1.1)
    have := szl_le (w := List.length) (c := 5) m fun r hr => by have := h1.2 r hr; omega
    simp only [szp, wl]
    omega
  unfold f3.l1
  refine Wi.lssC (fun g => absurd g (by omega)) fun _ => Wi.fls ?_
  refine Wl.getA (b := b8) h rfl (Wi.call (fnP8 (h.rd (cs := [u, q])) hp hZ hne hz fun H v37 f => ?_))
  have h := h.add f
  simp only [gw]
  refine Wl.getA (b := b8) h rfl (Wi.call (fnP9 (h.rd (cs := [u, q])) hp hall hs0 hc0 hz fun H v41 f => ?_))
  have h := h.add f
  simp only [gw]
  refine Wi.neqC (fun g => absurd rfl g) fun _ => ?_
  simp only [gw]
  refine Wi.call (fn10 (h.rd (cs := [v37])) (h.rd (cs := [v41])) ?_)
  simp only [gw]
  refine Wi.neqC (fun g => absurd rfl g) fun _ => ?_
  simp only [gw]
  refine Wl.len (v := v37) (xs := [Z]) h (Wi.neqC (fun g => absurd rfl g) fun _ => ?_)
  simp only [gw]
  have hm : Has RSS H [u] m := by
    obtain ⟨w1, w2, e, g1, g2⟩ := hasProb (h.rd (cs := [u, q]) (r := RProblem))
    simp only [List.cons.injEq, and_true] at e
    rw [e.1]
    exact g1
  have hmat : isMat m = true := by
    unfold isProb at hp
    rw [Bool.and_eq_true, Bool.and_eq_true] at hp
    exact hp.1.1
  have hpB : pB m = true := pB_iff.2 (by
    have : m.length = ql.length := (PB.of hp).sq.1
    rw [this]
    exact hP)
  refine Wi.fieldAddr (Wl.get (b := b8) (o := 0) h rfl (Wi.call (fnP11 hm hmat fun H l => ?_)))
  have h := h.to l
  rw [hpB]
  simp only [gw]
  have i0 : I64 0 := by unfold I64; omega
  refine Wl.getA (b := b8) h rfl (Wi.call (fn12 (h.rd (cs := [u, q])) i0 hpw fun H v63 f => ?_))
  rw [hsr] at f ⊢
  have h := h.add f
  simp only [gw]
  refine Wl.getA (b := b8) h rfl (Wi.call (fn13 (h.rd (cs := [u, q])) i0 hpw fun H v67 f => ?_))
  rw [hsr] at f ⊢
  have h := h.add f
  simp only [gw]
  refine Wi.neqC (fun g => absurd rfl g) fun _ => ?_
  simp only [gw]
  refine Wi.neqC (fun g => absurd rfl g) fun _ => ?_
  simp only [gw]
  refine Wi.call (fn14 (h.rd (cs := [v63])) (h.rd (cs := [v67])) ?_)
  rw [decide_eq_true rfl]
  simp only [gw]
  refine Wi.neqC (fun g => absurd rfl g) fun _ => ?_
  simp only [gw]
  have hO : Has (Rd.slice RFS) H [v37] [Z] := h.rd (cs := [v37])
  refine Wl.at1H (κ := .i64) rfl hO (i := 0) (by simp) fun w hw => ?_
  refine Wi.call (fn14 (h.rd (cs := [v63])) hw ?_)
  rw [decide_eq_true (show ((Z, (0 : Int)).1 : List Frac) = [Z][0] from rfl)]
  simp only [gw]
  refine Wl.getA (b := b8) h rfl (Wi.call (fn15 (h.rd (cs := [u, q])) hpw fun H v94 f => ?_))
  have h := h.add f
  have ecv : cvRes (m, ql) = (covL ql.length (m, ql), 0) := by unfold cvRes; rw [if_pos hp]
  rw [ecv, covL_map] at h
  rw [ecv]
  simp only [gw]
  refine Wi.neqC (fun g => absurd rfl g) fun _ => ?_
  simp only [gw]
  refine Wl.len (v := v94) (xs := (covN ql.length (m, ql)).map fun (s : Nat) => (s : Int)) h ?_
  rw [List.length_map]
  have hpos := List.length_pos_iff.2 hne
  have hcl := covN_len ql.length (m, ql)
  refine Wi.eqlC (fun g => absurd g (by omega)) fun _ => ?_
  simp only [gw]
  have h : Ab.Loc H0 [.data RS [v94] ((covN ql.length (m, ql)).map fun (s : Nat) => (s : Int)), .data RFS [v67] Z, .data RFS [v63] Z, .data (Rd.slice RFS) [v41] [Z], .data (Rd.slice RFS) [v37] [Z], .box b8 [u, q], .data RProblem [u, q] (m, ql)] H := h
  refine W.for_rule (covN ql.length (m, ql)).length (fun i st H => st = (.int .i64 (i : Nat), ()) ∧ Ab.Loc H0 [.data RS [v94] ((covN ql.length (m, ql)).map fun (s : Nat) => (s : Int)), .data RFS [v67] Z, .data RFS [v63] Z, .data (Rd.slice RFS) [v41] [Z], .data (Rd.slice RFS) [v37] [Z], .box b8 [u, q], .data RProblem [u, q] (m, ql)] H) ⟨rfl, h⟩ ?_
  rintro i st H J3 hi ⟨rfl, h⟩ hJ3
  refine Wl.len (v := v94) (xs := (covN ql.length (m, ql)).map fun (s : Nat) => (s : Int)) h ?_
  rw [List.length_map]
  refine Wi.lssC (fun hlt => Wi.tru ?_) fun _ => Wi.fls rfl
  have hil : i < (covN ql.length (m, ql)).length := by omega
  obtain ⟨g1, g2, g3⟩ := covN_ok (List.getElem_mem hil)
  refine Wl.getA (b := b8) h rfl (Wl.atInt (v := v94) (xs := (covN ql.length (m, ql)).map fun (s : Nat) => (s : Int)) (i := i) h (by simpa using hil) fun _ => ?_)
  rw [List.getElem_map]
  refine Wi.callQ (fn16 (h.rd (cs := [u, q])) hp g1 g2 fun H d w1 w2 rows f hd => ⟨f.le, ?_⟩)
  have h := h.add2 (c1 := [w1]) (c2 := [w2]) rfl f
  have k1 := (h.rd (cs := [w1]) (r := RSS)).cell1
  have k2 := (h.rd (cs := [w2]) (r := RS)).cell1
  have kc : [d, w1, w2].all isCell = true := by
    rw [List.all_cons, List.all_cons, List.all_cons, List.all_nil, k1, k2, hd]
    rfl
  have hpl : (ptOf ql.length (m, ql) (covN ql.length (m, ql))[i]).length = ql.length := ptOf_len _
  simp only [gw]
  refine Wl.new h fun H b109 h => Wl.putA h rfl rfl kc fun H h => Wi.neqC (fun g => absurd rfl g) fun _ => ?_
  simp only [gw]
  refine Wi.fieldAddr (Wl.get (b := b109) (o := 2) h rfl (Wl.len (v := w2) (xs := ptOf ql.length (m, ql) (covN ql.length (m, ql))[i]) h (Wi.neqC (fun g => absurd (by rw [hpl, hql]) g) fun _ => ?_)))
  simp only [gw]
  have h : Ab.Loc H0 [.box b109 [d, w1, w2], .data RSS [w1] rows, .data RS [w2] (ptOf ql.length (m, ql) (covN ql.length (m, ql))[i]), .data RS [v94] ((covN ql.length (m, ql)).map fun (s : Nat) => (s : Int)), .data RFS [v67] Z, .data RFS [v63] Z, .data (Rd.slice RFS) [v41] [Z], .data (Rd.slice RFS) [v37] [Z], .box b8 [u, q], .data RProblem [u, q] (m, ql)] H := h
  refine W.for_rule ql.length (fun k st H => st = (.int .i64 (k : Nat), ()) ∧ Ab.Loc H0 [.box b109 [d, w1, w2], .data RSS [w1] rows, .data RS [w2] (ptOf ql.length (m, ql) (covN ql.length (m, ql))[i]), .data RS [v94] ((covN ql.length (m, ql)).map fun (s : Nat) => (s : Int)), .data RFS [v67] Z, .data RFS [v63] Z, .data (Rd.slice RFS) [v41] [Z], .data (Rd.slice RFS) [v37] [Z], .box b8 [u, q], .data RProblem [u, q] (m, ql)] H) ⟨rfl, h⟩ ?_
  rintro k st H J4 hk ⟨rfl, h⟩ hJ4
  refine Wi.fieldAddr (Wl.get (b := b109) (o := 2) h rfl (Wl.len (v := w2) (xs := ptOf ql.length (m, ql) (covN ql.length (m, ql))[i]) h ?_))
  rw [hpl]
  refine Wi.lssC (fun hlt2 => Wi.tru ?_) fun _ => Wi.fls (Wi.add (by unfold I64; omega) (hJ3 _ _ hil ⟨rfl, h.tl.tl.tl⟩))
  have hkl : k < (ptOf ql.length (m, ql) (covN ql.length (m, ql))[i]).length := by omega
  refine Wi.fieldAddr (Wl.get (b := b109) (o := 2) h rfl (Wl.atInt (v := w2) (xs := ptOf ql.length (m, ql) (covN ql.length (m, ql))[i]) (i := k) h hkl fun _ => Wi.lssC (fun g => absurd (g3 _ (List.getElem_mem hkl)) (by omega)) fun _ => Wi.fls (Wi.add (by unfold I64; omega) (hJ4 _ _ (by omega) ⟨rfl, h⟩))))

theorem law3 {H0 : Heap} {bs0 : List Nat} {v0 : Value} {x0 : List Int} (hr0 : RBytes.rel H0 bs0 [v0] x0) : Runs Tryz.prog 3 #[v0] H0 (fun v _ => v = .bool true) := by
  have hc : Has RBytes H0 [v0] x0 := ⟨bs0, hr0⟩
  refine f3.enter ?_
  unfold f3.w
  refine Wi.call (f5.enter (Wl.lenH hc ?_))
  generalize (4096 : Int) = top
  refine Wi.gtrC (fun _ => Wi.tru rfl) fun _ => Wi.fls ?_
  refine Wi.call (fn6 hc (Loc.start H0) fun H d h => Wi.call (fn7 (i := 0) h rfl fun H x h hx hx' => ?_))
  have hx4 := hx' (by decide)
  obtain ⟨n, hn⟩ : ∃ n : Nat, 1 + x = (n : Int) := ⟨(1 + x).toNat, by omega⟩
  refine Wi.add (by unfold I64; omega) ?_
  rw [hn]
  refine Wl.lit0 (ty := 29) RS rfl h fun H u h => Wl.lit0 (ty := 2) Rd.int rfl h fun H q h => ?_
  have c1 := (h.rd (cs := [u]) (r := RSS)).one
  have c2 := (h.rd (cs := [q]) (r := RS)).one
  have k1 := (h.rd (cs := [u]) (r := RSS)).cell1
  have k2 := (h.rd (cs := [q]) (r := RS)).cell1
  have kc : [u, q].all isCell = true := by simp [k1, k2]
  refine Wi.build (cells := [u, q]) (by simp [fillA, c1, c2]) (Wl.new h fun H b8 h => Wl.putA h rfl rfl kc fun H h => ?_)
  refine W.for_rule n (fun x st H => ∃ u q m ql, st = (.int .i64 (x : Nat), ()) ∧ m.length = x ∧ ql.length = x ∧ (∀ i (hi : i < m.length), TopRow n i m[i]) ∧ (∀ y ∈ ql, y.natAbs ≤ 10) ∧ Ab.Loc H0 [.box b8 [u, q], .grow Rd.int 2 q ql, .grow RS 29 u m, .src d v0 x0] H) ⟨u, q, [], [], rfl, rfl, rfl, by simp, by simp, h⟩ ?_
  rintro x st H J hx ⟨u, q, m, ql, rfl, hm, hq, hT, hqb, h⟩ hJ
  by_cases hxn : x < n
  · unfold f3.l1
    refine Wi.lssC (fun _ => Wi.tru ?_) fun g => absurd (by omega) g
    refine Wl.lit0 (ty := 2) Rd.int rfl h fun H w h => ?_
    refine W.for_rule n (fun k st H => ∃ w row total, st = (w, .int .i64 total, .int .i64 (k : Nat), ()) ∧ row.length = k ∧ (x < k → row.getD x 0 = 0) ∧ (∀ j, j < k → (row.getD j 0).natAbs ≤ 2) ∧ total = 1 + ((nsum k fun j => (row.getD j 0).natAbs : Nat) : Int) ∧ Ab.Loc H0 [.grow Rd.int 2 w row, .box b8 [u, q], .grow Rd.int 2 q ql, .grow RS 29 u m, .src d v0 x0] H) ⟨w, [], 1, rfl, rfl, fun g => absurd g (by omega), fun j hj => absurd hj (by omega), rfl, h⟩ ?_
    rintro k st H J2 hk ⟨w, row, total, rfl, hrl, hr0', hrb, htot, h⟩ hJ2
    have hts := nsum_const (n := k) (B := 2) (f := fun j => (row.getD j 0).natAbs) hrb
    refine Wi.lssC (fun hlt => Wi.tru ?_) fun hge => Wi.fls ?_
    · have hkn : k < n := by omega
      refine Wi.call (fn7 (i := 4) h rfl fun H y h hy hy' => ?_)
      have hy5 := hy' (by decide)
      refine Wi.sub (by unfold I64; omega) ?_
      have step : ∀ own : Int, own.natAbs ≤ 2 → (x = k → own = 0) → f3.j1 (fun v _ => v = .bool true) (.int .i64 total) w (.int .i64 (k : Nat)) (fun st => J2 st) (.int .i64 own) H := fun own ho hox => by
        unfold f3.j1
        have hmx : (if -own > own then -own else own) = ((own.natAbs : Nat) : Int) := by split <;> omega
        refine Wi.neg (by unfold I64; omega) (Wi.max2 hmx ?_)
        refine Wi.add (by unfold I64; omega) (Wl.pushP (r := Rd.int) (x := own) (i := 0) rfl rfl rfl (fun _ => ⟨rfl, rfl, by unfold I64; omega⟩) h (by omega) fun H w' h => Wi.add (by unfold I64; omega) (hJ2 _ _ hkn ⟨w', row ++ [own], _, rfl, by simp; omega, fun g => ?_, fun j hj => ?_, ?_, h⟩))
        · by_cases e : x = k
          · rw [e, ← hrl]; simp; exact hox e
          · simp only [List.getD_eq_getElem?_getD]
            rw [List.getElem?_append_left (by omega)]
            have := hr0' (by omega)
            simpa only [List.getD_eq_getElem?_getD] using this
        · by_cases e : j = k
          · rw [e, ← hrl]; simp; exact ho
          · simp only [List.getD_eq_getElem?_getD]
            rw [List.getElem?_append_left (by omega)]
            have := hrb j (by omega)
            simpa only [List.getD_eq_getElem?_getD] using this
        · have e1 : nsum k (fun j => ((row ++ [own]).getD j 0).natAbs) = nsum k fun j => (row.getD j 0).natAbs := nsum_congr fun j hj => by
            simp only [List.getD_eq_getElem?_getD]
            rw [List.getElem?_append_left (by omega)]
          have e2 : (row ++ [own]).getD k 0 = own := by rw [← hrl]; simp
          simp only [nsum]
          rw [e1, e2, htot]
          omega
      refine Wi.eqlC (fun e => Wi.tru (step 0 (by decide) fun _ => rfl)) fun e => Wi.fls (step _ (by omega) fun g => absurd (by rw [g]) e)
    · have : k = n := by omega
      subst this
      have hrow := top_row hxn hrl (hr0' hxn) hrb htot
      refine Wl.setG (i := x) (j := 0) h (by omega) (by unfold I64; omega) fun H h => ?_
      have h : Ab.Loc H0 [.grow Rd.int 2 w (row.set x total), .box b8 [u, q], .grow Rd.int 2 q ql, .grow RS 29 u m, .src d v0 x0] H := h
      have h := h.asData (i := 0) rfl
      have hcu := (h.rd (cs := [w]) (r := RS)).one
      refine Wi.fieldAddr (Wl.get (b := b8) (o := 0) h rfl (Wl.pushO (r := RS) (u := w) (x := row.set x total) (i := 3) (j := 0) rfl h (by decide) hcu (by omega) fun H u' h => ?_))
      have h : Ab.Loc H0 [.emp, .box b8 [u, q], .grow Rd.int 2 q ql, .grow RS 29 u' (m ++ [row.set x total]), .src d v0 x0] H := h
      have k3 := (h.rd (cs := [u']) (r := RSS)).cell1
      refine Wi.fieldAddr (Wl.put (b := b8) (o := 0) (i := 1) h k3 (by simp) fun H h => Wi.fieldAddr (Wl.get (b := b8) (o := 1) h rfl ?_))
      refine Wi.call (fn7 (i := 4) h rfl fun H y h hy hy' => ?_)
      have hy5 := hy' (by decide)
      refine Wi.chk (Wl.get (b := b8) (o := 1) h rfl ⟨rfl, rfl⟩) (Wi.sub (by unfold I64; omega) ?_)
      refine Wl.pushP (r := Rd.int) (x := y - 10) (i := 2) rfl rfl rfl (fun _ => ⟨rfl, rfl, by unfold I64; omega⟩) h (by omega) fun H q' h => ?_
      have h : Ab.Loc H0 [.emp, .box b8 [u', q], .grow Rd.int 2 q' (ql ++ [y - 10]), .grow RS 29 u' (m ++ [row.set x total]), .src d v0 x0] H := h
      have k4 := (h.rd (cs := [q']) (r := RS)).cell1
      refine Wi.fieldAddr (Wl.put (b := b8) (o := 1) (i := 1) h k4 (by simp) fun H h => ?_)
      have h : Ab.Loc H0 [.emp, .box b8 [u', q'], .grow Rd.int 2 q' (ql ++ [y - 10]), .grow RS 29 u' (m ++ [row.set x total]), .src d v0 x0] H := h
      refine Wi.add (by unfold I64; omega) (hJ _ _ hxn ⟨u', q', m ++ [row.set x total], ql ++ [y - 10], rfl, by simp; omega, by simp; omega, fun i hi => ?_, fun z hz => ?_, h.cut 0⟩)
      · by_cases e : i < m.length
        · rw [List.getElem_append_left e]; exact hT i e
        · have : i = m.length := by simp at hi; omega
          subst this
          rw [List.getElem_append_right (Nat.le_refl _)]
          simp only [Nat.sub_self, List.getElem_cons_zero]
          rw [hm]
          exact hrow
      · rcases List.mem_append.1 hz with g | g
        · exact hqb z g
        · simp at g; omega
  · have : x = n := by omega
    subst this
    have h := ((h.asData (i := 1) rfl).asData (i := 2) rfl).pair (i := 2) (j := 1) rfl rfl (by decide)
    have h : Ab.Loc H0 [.box b8 [u, q], .emp, .data RProblem [u, q] (m, ql), .src d v0 x0] H := h
    have hp := top_prob (by omega) hm hT hq hqb
    have hP := dom_P (top_dom hm hT)
    rw [← hq] at hP
    have h : Ab.Loc H0 [.box b8 [u, q], .data RProblem [u, q] (m, ql)] H := (h.cut 1).cut 2
    exact top_end (n := x) (m := m) (ql := ql) (by omega) hp hP hq h (pt d 0) (fun v => J (v, ()))

end Go.Proofs.YtdmgomeogedjgaaGreat
