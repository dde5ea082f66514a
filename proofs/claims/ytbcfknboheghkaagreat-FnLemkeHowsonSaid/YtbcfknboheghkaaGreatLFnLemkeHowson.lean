/- The law FnLemkeHowson answers true on any abstract heap that holds its code. No condition. -/
import Derived.Test.YtbcfknboheghkaaGreatGDR
import Derived.Test.YtbcfknboheghkaaGreatGLH
import Derived.Test.YtbcfknboheghkaaGreatGVV
import Derived.Test.YtbcfknboheghkaaGreatGRC
import Derived.Test.YtbcfknboheghkaaGreatGLI
import Derived.Test.YtbcfknboheghkaaGreatGLS
import Derived.Test.YtbcfknboheghkaaGreatGWW
import Derived.Test.YtbcfknboheghkaaGreatReadsY
namespace Go.Proofs.YtbcfknboheghkaaGreat
open Go.Ab

/- loop.example/g01343/laws.FnLemkeHowson -/
def f3.j1 (Q : Post) (i_17 : Value) (I1 : St [17] → Heap → Prop) (H : Heap) : Prop :=
  W.bin .add i_17 (.int .i64 1) H fun v57 H =>
  I1 (v57, ()) H
def f3.j3 (Q : Post) (code_0 : Value) (H : Heap) : Prop :=
  W.call Tryz.prog (.func (.func 18) #[] #[]) #[code_0] H fun v112 H =>
  W.new [(.slice none 0 0), (.slice none 0 0)] 26 H fun v113 H =>
  W.putN 2 v113 v112 H fun _ H =>
  W.getN 2 v113 H fun v114 H =>
  W.call Tryz.prog (.func (.func 11) #[] #[]) #[v114] H fun v115 H =>
  W.extract 0 v115 H fun v116 H =>
  W.extract 1 v115 H fun v117 H =>
  W.extract 2 v115 H fun v118 H =>
  W.getN 2 v113 H fun v119 H =>
  W.call Tryz.prog (.func (.func 19) #[] #[]) #[v119] H fun v120 H =>
  W.extract 0 v120 H fun v121 H =>
  W.extract 1 v120 H fun v122 H =>
  W.extract 2 v120 H fun v123 H =>
  W.bin .eql v118 v123 H fun v124 H =>
  W.guarded v124 true (fun H k => k v116 H) H fun v125 H =>
  W.guarded v124 true (fun H k => k v121 H) H fun v126 H =>
  W.guarded v124 true (fun H k => W.call Tryz.prog (.func (.func 20) #[] #[]) #[v125, v126] H k) H fun v127 H =>
  W.pick v124 v127 (.bool false) H fun v128 H =>
  W.guarded v128 true (fun H k => k v117 H) H fun v129 H =>
  W.guarded v128 true (fun H k => k v122 H) H fun v130 H =>
  W.guarded v128 true (fun H k => W.call Tryz.prog (.func (.func 20) #[] #[]) #[v129, v130] H k) H fun v131 H =>
  W.pick v128 v131 (.bool false) H fun v132 H =>
  Q v132 H
def f3.l2 (Q : Post) (v82 : Value) (code_0 : Value) (I2 : St [23, 24] → Heap → Prop) (zero_23 : Value) (i_24 : Value) (H : Heap) : Prop :=
  W.fieldAddr 1 v82 H fun v96 H =>
  W.get v96 H fun v97 H =>
  W.len v97 H fun v98 H =>
  W.bin .lss i_24 v98 H fun v99 H =>
  W.cond v99 H
  (fun H => W.build [(.int .i64 0), (.int .i64 0)] [(0, 1, (.int .i64 0)), (1, 1, (.int .i64 1))] H fun v100 H =>
   W.lit 1 [(.int .i64 0), (.int .i64 0)] 39 [(0, 2, v100)] H fun v101 H =>
   W.append 2 39 zero_23 v101 H fun v102 H =>
   W.bin .add i_24 (.int .i64 1) H fun v103 H =>
   I2 (v102, v103, ()) H)
  (fun H => W.getN 2 v82 H fun v104 H =>
   W.call Tryz.prog (.func (.func 17) #[] #[]) #[v104, zero_23] H fun v105 H =>
   W.extract 0 v105 H fun v106 H =>
   W.extract 1 v105 H fun v107 H =>
   W.bin .neq v107 (.int .i64 0) H fun v108 H =>
   W.guarded v108 false (fun H k => k v106 H) H fun v109 H =>
   W.guarded v108 false (fun H k => W.un .not v109 H k) H fun v110 H =>
   W.pick v108 (.bool true) v110 H fun v111 H =>
   W.cond v111 H
   (fun H => Q (.bool false) H)
   (fun H => f3.j3 Q code_0 H))
def f3.j2 (Q : Post) (code_0 : Value) (H : Heap) : Prop :=
  W.call Tryz.prog (.func (.func 13) #[] #[]) #[code_0] H fun v76 H =>
  W.new [(.slice none 0 0), (.slice none 0 0)] 26 H fun v77 H =>
  W.putN 2 v77 v76 H fun _ H =>
  W.getN 2 v77 H fun v78 H =>
  W.call Tryz.prog (.func (.func 14) #[] #[]) #[v78] H fun v79 H =>
  W.extract 0 v79 H fun v80 H =>
  W.extract 1 v79 H fun v81 H =>
  W.new [(.slice none 0 0), (.slice none 0 0)] 43 H fun v82 H =>
  W.putN 2 v82 v80 H fun _ H =>
  W.getN 2 v77 H fun v83 H =>
  W.call Tryz.prog (.func (.func 15) #[] #[]) #[v83] H fun v84 H =>
  W.extract 0 v84 H fun v85 H =>
  W.extract 1 v84 H fun v86 H =>
  W.new [(.slice none 0 0), (.slice none 0 0)] 43 H fun v87 H =>
  W.putN 2 v87 v85 H fun _ H =>
  W.bin .neq v81 v86 H fun v88 H =>
  W.guarded v88 false (fun H k => W.getN 2 v82 H k) H fun v89 H =>
  W.guarded v88 false (fun H k => W.getN 2 v87 H k) H fun v90 H =>
  W.guarded v88 false (fun H k => W.call Tryz.prog (.func (.func 16) #[] #[]) #[v89, v90] H k) H fun v91 H =>
  W.guarded v88 false (fun H k => W.un .not v91 H k) H fun v92 H =>
  W.pick v88 (.bool true) v92 H fun v93 H =>
  W.cond v93 H
  (fun H => Q (.bool false) H)
  (fun H => W.bin .eql v81 (.int .i64 0) H fun v94 H =>
   W.cond v94 H
   (fun H => W.lit 0 [(.int .i64 0), (.int .i64 0)] 39 [] H fun v95 H =>
    W.loop (S := St [23, 24]) (fun I2 s H => f3.l2 Q v82 code_0 I2 s.1 s.2.1 H) (v95, (.int .i64 0), ()) H)
   (fun H => f3.j3 Q code_0 H))
def f3.l1 (Q : Post) (v8 : Value) (v29 : Value) (v38 : Value) (v39 : Value) (code_0 : Value) (I1 : St [17] → Heap → Prop) (i_17 : Value) (H : Heap) : Prop :=
  W.len v8 H fun v51 H =>
  W.bin .lss i_17 v51 H fun v52 H =>
  W.cond v52 H
  (fun H => W.indexAddr 2 v8 i_17 H fun v53 H =>
   W.fieldAddr 0 v53 H fun v54 H =>
   W.get v54 H fun v55 H =>
   W.bin .eql v55 (.int .i64 0) H fun v56 H =>
   W.cond v56 H
   (fun H => f3.j1 Q i_17 I1 H)
   (fun H => W.bin .lss i_17 v29 H fun v58 H =>
    W.guarded v58 true (fun H k => k v38 H) H fun v59 H =>
    W.guarded v58 true (fun H k => k i_17 H) H fun v60 H =>
    W.guarded v58 true (fun H k => W.call Tryz.prog (.func (.func 12) #[] #[]) #[v59, v60] H k) H fun v61 H =>
    W.guarded v58 true (fun H k => W.un .not v61 H k) H fun v62 H =>
    W.pick v58 v62 (.bool false) H fun v63 H =>
    W.guarded v63 false (fun H k => k i_17 H) H fun v64 H =>
    W.guarded v63 false (fun H k => k v29 H) H fun v65 H =>
    W.guarded v63 false (fun H k => W.bin .geq v64 v65 H k) H fun v66 H =>
    W.guarded v63 false (fun H k => k v66 H) H fun v67 H =>
    W.guarded v67 true (fun H k => k v39 H) H fun v68 H =>
    W.guarded v67 true (fun H k => k i_17 H) H fun v69 H =>
    W.guarded v67 true (fun H k => k v29 H) H fun v70 H =>
    W.guarded v67 true (fun H k => W.bin .sub v69 v70 H k) H fun v71 H =>
    W.guarded v67 true (fun H k => W.call Tryz.prog (.func (.func 12) #[] #[]) #[v68, v71] H k) H fun v72 H =>
    W.guarded v67 true (fun H k => W.un .not v72 H k) H fun v73 H =>
    W.guarded v63 false (fun H k => W.pick v67 v73 (.bool false) H k) H fun v74 H =>
    W.pick v63 (.bool true) v74 H fun v75 H =>
    W.cond v75 H
    (fun H => Q (.bool false) H)
    (fun H => f3.j1 Q i_17 I1 H)))
  (fun H => f3.j2 Q code_0 H)
def f3.w (Q : Post) (code_0 : Value) (H : Heap) : Prop :=
  W.call Tryz.prog (.func (.func 5) #[] #[]) #[code_0] H fun v1 H =>
  W.cond v1 H
  (fun H => Q (.bool true) H)
  (fun H => W.call Tryz.prog (.func (.func 6) #[] #[]) #[code_0] H fun v2 H =>
   W.extract 0 v2 H fun v3 H =>
   W.extract 1 v2 H fun v4 H =>
   W.new [(.slice none 0 0), (.slice none 0 0)] 26 H fun v5 H =>
   W.putN 2 v5 v3 H fun _ H =>
   W.getN 2 v5 H fun v6 H =>
   W.call Tryz.prog (.func (.func 7) #[] #[]) #[v6, v4] H fun v7 H =>
   W.extract 0 v7 H fun v8 H =>
   W.extract 1 v7 H fun v9 H =>
   W.extract 2 v7 H fun v10 H =>
   W.getN 2 v5 H fun v11 H =>
   W.call Tryz.prog (.func (.func 8) #[] #[]) #[v11, v4] H fun v12 H =>
   W.extract 0 v12 H fun v13 H =>
   W.extract 1 v12 H fun v14 H =>
   W.extract 2 v12 H fun v15 H =>
   W.bin .neq v10 v15 H fun v16 H =>
   W.guarded v16 false (fun H k => k v8 H) H fun v17 H =>
   W.guarded v16 false (fun H k => k v13 H) H fun v18 H =>
   W.guarded v16 false (fun H k => W.call Tryz.prog (.func (.func 9) #[] #[]) #[v17, v18] H k) H fun v19 H =>
   W.guarded v16 false (fun H k => W.un .not v19 H k) H fun v20 H =>
   W.pick v16 (.bool true) v20 H fun v21 H =>
   W.guarded v21 false (fun H k => k v9 H) H fun v22 H =>
   W.guarded v21 false (fun H k => k v14 H) H fun v23 H =>
   W.guarded v21 false (fun H k => W.bin .neq v22 v23 H k) H fun v24 H =>
   W.pick v21 (.bool true) v24 H fun v25 H =>
   W.cond v25 H
   (fun H => Q (.bool false) H)
   (fun H => W.bin .eql v10 (.int .i64 0) H fun v26 H =>
    W.cond v26 H
    (fun H => W.fieldAddr 0 v5 H fun v27 H =>
     W.get v27 H fun v28 H =>
     W.len v28 H fun v29 H =>
     W.getN 2 v5 H fun v30 H =>
     W.slice 2 v8 none (some v29) H fun v31 H =>
     W.slice 2 v8 (some v29) none H fun v32 H =>
     W.callQ Tryz.prog (.func (.func 10) #[] #[]) #[v30, v31, v32] H fun v33 H =>
     W.extract 0 v33 H fun v34 H =>
     W.extract 1 v33 H fun v35 H =>
     W.getN 2 v5 H fun v36 H =>
     W.call Tryz.prog (.func (.func 11) #[] #[]) #[v36] H fun v37 H =>
     W.extract 0 v37 H fun v38 H =>
     W.extract 1 v37 H fun v39 H =>
     W.extract 2 v37 H fun v40 H =>
     W.bin .eql v35 (.int .i64 0) H fun v41 H =>
     W.guarded v41 true (fun H k => k v34 H) H fun v42 H =>
     W.guarded v41 true (fun H k => W.un .not v42 H k) H fun v43 H =>
     W.pick v41 v43 (.bool false) H fun v44 H =>
     W.guarded v44 false (fun H k => k v40 H) H fun v45 H =>
     W.guarded v44 false (fun H k => W.bin .neq v45 (.int .i64 0) H k) H fun v46 H =>
     W.pick v44 (.bool true) v46 H fun v47 H =>
     W.guarded v47 false (fun H k => k v9 H) H fun v48 H =>
     W.guarded v47 false (fun H k => W.bin .lss v48 (.int .i64 2) H k) H fun v49 H =>
     W.pick v47 (.bool true) v49 H fun v50 H =>
     W.cond v50 H
     (fun H => Q (.bool false) H)
     (fun H => W.loop (S := St [17]) (fun I1 s H => f3.l1 Q v8 v29 v38 v39 code_0 I1 s.1 H) ((.int .i64 0), ()) H))
    (fun H => f3.j2 Q code_0 H)))
theorem f3.enter {Q : Post} {code_0 : Value} {H : Heap} (h : f3.w Q code_0 H) : Runs Tryz.prog 3 #[code_0] H Q :=
  fn_enter (ann := [(15, [17]), (28, [23, 24])]) (by kernel_rfl) Tryz.func3 rfl (by kernel_rfl) h (by kernel_rfl)


abbrev qTp : Post := fun v _ => v = .bool true

/-- What remains, by both. -/
theorem lh_j3 {H0 : Heap} {v0 : Value} {x0 : List Int} (hc : Has RBytes H0 [v0] x0) : f3.j3 qTp v0 H0 := by
  unfold f3.j3
  refine Wi.call (fn18 hc fun H u1 u2 g l hg hs => ?_)
  have h := (Loc.start H).lent hg
  have kc := hg.cell
  refine Wl.new h fun H1 b h => Wl.putA (b := b) (i := 0) h rfl rfl kc fun H1 h => Wl.getA (b := b) h rfl (Wi.call (fn11 (h.rd (cs := [u1, u2]) (x := g)) hs.w fun H2 va vb l2 ha hb => ?_))
  have h := h.to l2
  simp only [gw]
  refine Wl.getA (b := b) h rfl (Wi.call (fn19 (h.rd (cs := [u1, u2]) (x := g)) hs.w fun H3 vc vd l3 hc hd => ?_))
  simp only [gw]
  refine Wi.eqlC (fun _ => ?_) fun q => absurd rfl q
  simp only [gw]
  refine Wi.call (fn20 (ha.le l3) hc ?_)
  rw [decide_eq_true rfl]
  simp only [gw]
  refine Wi.call (fn20 (hb.le l3) hd ?_)
  rw [decide_eq_true rfl]

/-- The problem of a game. -/
theorem lh_j2 {H0 : Heap} {v0 : Value} {x0 : List Int} (hc : Has RBytes H0 [v0] x0) : f3.j2 qTp v0 H0 := by
  classical
  unfold f3.j2
  refine Wi.call (fn13 hc fun H u1 u2 g l hg hs => ?_)
  have hc := hc.le l
  have h := (Loc.start H).lent hg
  have kc := hg.cell
  refine Wl.new h fun H1 b h => Wl.putA (b := b) (i := 0) h rfl rfl kc fun H1 h => Wl.getA (b := b) h rfl (Wi.call (fn14 (h.rd (cs := [u1, u2]) (x := g)) hs.w fun H2 cs f => ?_))
  obtain ⟨m1, m2, rfl, _, _⟩ := hasProb f.read
  have h := h.add f
  have km := (h.rd (cs := [m1, m2]) (r := RProblem) (x := (gmRes g).1)).cell
  simp only [gw]
  refine Wl.new h fun H1 b82 h => Wl.putA (b := b82) (i := 0) h rfl rfl km fun H1 h => Wl.getA (b := b) h rfl (Wi.call (fn15 (h.rd (cs := [u1, u2]) (x := g)) hs.w fun H2 cs f => ?_))
  obtain ⟨o1, o2, rfl, _, _⟩ := hasProb f.read
  have h := h.add f
  have ko := (h.rd (cs := [o1, o2]) (r := RProblem) (x := (gmRes g).1)).cell
  simp only [gw]
  refine Wl.new h fun H1 b87 h => Wl.putA (b := b87) (i := 0) h rfl rfl ko fun H1 h => ?_
  have h : Ab.Loc H [.box b87 [o1, o2], .data RProblem [o1, o2] (gmRes g).1, .box b82 [m1, m2], .data RProblem [m1, m2] (gmRes g).1, .box b [u1, u2], .lent RGame [u1, u2] g] H1 := h
  refine Wi.neqC (fun q => absurd rfl q) fun _ => ?_
  simp only [gw]
  refine Wl.getA (b := b82) h rfl (Wl.getA (b := b87) h rfl (Wi.call (fn16 (h.rd (cs := [m1, m2]) (x := (gmRes g).1)) (h.rd (cs := [o1, o2]) (x := (gmRes g).1)) fun H1 l => ?_)))
  have h := h.to l
  simp only [gw]
  refine Wi.eqlC (fun h0 => Wi.tru ?_) fun _ => Wi.fls (lh_j3 (hc.le h.le))
  have hgm : IsGm g := Classical.byContradiction fun q => by
    unfold gmRes at h0
    rw [if_neg q] at h0
    exact absurd h0 (by decide)
  have e : (gmRes g).1 = gmP g := by unfold gmRes; rw [if_pos hgm]
  rw [e] at h
  have hq2 : (gmP g).2.length = nG g := by simp [gmP]
  have kl := hgm.kl
  have hn5 : nG g ≤ 5 := kl
  obtain ⟨y1, y2, ey, _, q2⟩ := hasProb (h.rd (cs := [m1, m2]) (r := RProblem) (x := gmP g))
  cases ey
  refine Wl.lit0 (ty := 39) RFrac rfl h fun H2 w h => ?_
  refine W.for_rule (nG g) (fun i st H2 => ∃ w, st = (w, .int .i64 (i : Nat), ()) ∧ Ab.Loc H [.grow RFrac 39 w (zerosF i), .box b87 [o1, o2], .data RProblem [o1, o2] (gmP g), .box b82 [m1, m2], .data RProblem [m1, m2] (gmP g), .box b [u1, u2], .lent RGame [u1, u2] g] H2) ⟨w, rfl, h⟩ ?_
  rintro i st H2 J hi ⟨w, rfl, h⟩ hJ
  unfold f3.l2
  obtain ⟨y1, y2, ey, _, q2⟩ := hasProb (h.rd (cs := [m1, m2]) (r := RProblem) (x := gmP g))
  cases ey
  refine Wi.fieldAddr (Wl.get (b := b82) (o := 1) h rfl (Wl.lenH q2 ?_))
  rw [hq2]
  refine Wi.lssC (fun hlt => Wi.tru ?_) fun hge => Wi.fls ?_
  · have hin : i < nG g := by omega
    refine Wi.build (cells := frC (0, 1)) rfl (Wl.pushP (r := RFrac) (x := ((0, 1) : Frac)) (i := 0) rfl rfl rfl (frac_rel ⟨by show I64 0; unfold I64; decide, by show I64 1; unfold I64; decide⟩) h (by simp; omega) fun H w' h => Wi.add (by unfold I64; omega) (hJ _ _ hin ⟨w', rfl, ?_⟩))
    have e : zerosF i ++ [(0, 1)] = zerosF (i + 1) := by unfold zerosF; rw [List.replicate_succ']
    rw [e] at h
    exact h
  · have hin : i = nG g := by omega
    subst hin
    refine Wl.getA (b := b82) h rfl (Wi.call (fn17 (n := nG g) (h.rd (cs := [m1, m2]) (x := gmP g)) (h.rd (cs := [w]) (r := RFS)) (gm_prob hgm) hq2 frs_z (by simp) (fun hn => ?_) fun li d hs H3 l => ?_))
    · rw [tog_z (by decide) (by decide)] at hn
      cases hn
    · rw [tog_z (by decide) (by decide)] at hs
      cases hs
      rw [gm_zero]
      simp only [gw]
      refine Wi.neqC (fun q => absurd rfl q) fun _ => ?_
      simp only [gw]
      exact lh_j3 (hc.le (h.to l).le)

/-- Each choice that is used remains. -/
theorem lh_loop {H0 H : Heap} {v0 v8 vr vc : Value} {x0 : List Int} {xs : List Frac} {r c : List Int} {k : Nat} (hc : Has RBytes H [v0] x0) (hx : Has RFS H [v8] xs) (hr : Has RS H [vr] r) (hcc : Has RS H [vc] c) (hk : k ≤ xs.length) (hl : xs.length ≤ 5)
    (h1 : ∀ i, i < k → (xs.getD i (0, 1)).1 ≠ 0 → (i : Int) ∈ r) (h2 : ∀ j, k + j < xs.length → (xs.getD (k + j) (0, 1)).1 ≠ 0 → (j : Int) ∈ c) :
    W.loop (S := St [17]) (fun I1 s H => f3.l1 qTp v8 (.int .i64 (k : Nat)) vr vc v0 I1 s.1 H) ((.int .i64 0), ()) H := by
  refine W.for_rule xs.length (fun i st H' => H' = H ∧ st = (.int .i64 (i : Nat), ())) ⟨rfl, rfl⟩ ?_
  rintro i st H' J hi ⟨rfl, rfl⟩ hJ
  unfold f3.l1
  refine Wl.lenH hx (Wi.lssC (fun hlt => Wi.tru ?_) fun hge => Wi.fls (lh_j2 hc))
  have hix : i < xs.length := by omega
  have go : f3.j1 qTp (.int .i64 (i : Nat)) J H' := by
    unfold f3.j1
    exact Wi.add (by unfold I64; omega) (hJ _ _ hix ⟨rfl, rfl⟩)
  have ex : xs.getD i (0, 1) = xs[i] := by simp [List.getD_eq_getElem?_getD, hix]
  refine Wl.numFrH hx hix fun _ => Wi.eqlC (fun _ => Wi.tru go) fun hne => Wi.fls ?_
  by_cases hik : i < k
  · have hm := h1 i hik (by rw [ex]; exact hne)
    refine Wi.lssC (fun _ => ?_) fun q => absurd (by omega) q
    simp only [gw]
    refine Wi.call (fn12 hr ?_)
    rw [decide_eq_true hm]
    simp only [gw]
    refine Wi.geqC (fun q => absurd hik (by omega)) fun _ => ?_
    simp only [gw]
    exact go
  · refine Wi.lssC (fun q => absurd q (by omega)) fun _ => ?_
    simp only [gw]
    refine Wi.geqC (fun _ => ?_) fun q => absurd (by omega) q
    have hm := h2 (i - k) (by omega) (by rw [show k + (i - k) = i by omega, ex]; exact hne)
    rw [show ((i - k : Nat) : Int) = (i : Int) - (k : Int) by omega] at hm
    simp only [gw]
    refine Wi.sub (by unfold I64; omega) (Wi.call (fn12 hcc ?_))
    rw [decide_eq_true hm]
    simp only [gw]
    exact go

theorem law3 {H0 : Heap} {bs0 : List Nat} {v0 : Value} {x0 : List Int} (hr0 : RBytes.rel H0 bs0 [v0] x0) : Runs Tryz.prog 3 #[v0] H0 (fun v _ => v = .bool true) := by
  have hc : Has RBytes H0 [v0] x0 := ⟨bs0, hr0⟩
  refine f3.enter ?_
  unfold f3.w
  refine Wi.call (f5.enter (Wl.lenH hc ?_))
  generalize (4096 : Int) = top
  refine Wi.gtrC (fun _ => Wi.tru rfl) fun _ => Wi.fls ?_
  refine Wi.call (fn6 hc fun H u1 u2 g a l hgr hs ha => ?_)
  have hc := hc.le l
  obtain ⟨z1, z2, ez, r1, _⟩ := hasGame hgr
  cases ez
  have h := ((Loc.start H).lent r1).lent hgr
  have kc := hgr.cell
  simp only [gw]
  refine Wl.new h fun H1 b h => Wl.putA (b := b) (i := 0) h rfl rfl kc fun H1 h => Wl.getA (b := b) h rfl (Wi.call (fnG7 (h.rd (cs := [u1, u2]) (x := g)) ha hs.w fun H1 v8 f => ?_))
  have h := h.addG f
  simp only [gw]
  refine Wl.getA (b := b) h rfl (Wi.call (fn8 (h.rd (cs := [u1, u2]) (x := g)) ha hs.w fun H1 v13 f => ?_))
  have h := h.add f
  simp only [gw]
  refine Wi.neqC (fun q => absurd rfl q) fun _ => ?_
  simp only [gw]
  refine Wi.call (fn9 (h.rd (cs := [v8]) (r := RFS) (x := (lhRes g a).1)) (h.rd (cs := [v13]) (r := RFS) (x := (lhRes g a).1)) ?_)
  rw [decide_eq_true rfl]
  simp only [gw]
  refine Wi.neqC (fun q => absurd rfl q) fun _ => ?_
  simp only [gw]
  refine Wi.eqlC (fun h0 => Wi.tru ?_) fun _ => Wi.fls (lh_j2 (hc.le h.le))
  obtain ⟨hg, z, D, m, hz, hm, e1, e2, m1⟩ := lhRes_good h0
  obtain ⟨_, _, zl⟩ := hz.mix hm
  have hnn : nG g = g.1.length + lw g := rfl
  have n5 : nG g ≤ 5 := hg.kl
  have hgood := hz.good hg hm
  obtain ⟨left1, left2⟩ := hz.left hg hm
  have hrem : (remRes g).2 = 0 := by unfold remRes; rw [if_pos hg]
  rw [e1] at h
  rw [e2]
  generalize hxs : (mixV g.1.length z).1 = xs at *
  have h := h.tl.asG (i := 0) rfl
  have h : Ab.Loc H [.data (Rd.gslice RFrac 39) [v8] xs, .box b [u1, u2], .lent RGame [u1, u2] g, .lent RSS [u1] g.1] H1 := h
  have hv : Has (Rd.gslice RFrac 39) H1 [v8] xs := h.rd (cs := [v8])
  refine Wi.fieldAddr0 (Wl.get (b := b) h rfl (Wl.len (v := u1) (xs := g.1) h (Wl.getA (b := b) h rfl ?_)))
  refine Wl.cutLoH hv.ofG1 (by omega) fun w1 hw1 => Wl.cutHiG rfl hv (by omega) fun w2 hw2 => ?_
  refine Wi.callQ (fn10 (h.rd (cs := [u1, u2]) (x := g)) hw1 hw2 hs.w (by simp; omega) (by simp; omega) fun H2 l2 => ⟨l2, ?_⟩)
  have h := h.to l2
  simp only [gw]
  refine Wl.getA (b := b) h rfl (Wi.call (fn11 (h.rd (cs := [u1, u2]) (x := g)) hs.w fun H3 vr vc l3 hrr hcc => ?_))
  have h := h.to l3
  rw [hrem]
  simp only [gw]
  have tail : W.loop (S := St [17]) (fun I1 s H => f3.l1 qTp v8 (.int .i64 (g.1.length : Nat)) vr vc v0 I1 s.1 H) ((.int .i64 0), ()) H3 :=
    lh_loop (H0 := H) (hc.le h.le) (h.rd (cs := [v8]) (r := Rd.gslice RFrac 39)).ofG1 hrr hcc (by omega) (by omega) left1 fun j hj => left2 j (by omega)
  refine Wi.eqlC (fun hc0 => ?_) fun _ => ?_
  · rw [hgood hc0]
    simp only [gw]
    refine Wi.neqC (fun q => absurd rfl q) fun _ => ?_
    simp only [gw]
    refine Wi.lssC (fun q => absurd q (by omega)) fun _ => ?_
    simp only [gw]
    exact tail
  · simp only [gw]
    refine Wi.neqC (fun q => absurd rfl q) fun _ => ?_
    simp only [gw]
    refine Wi.lssC (fun q => absurd q (by omega)) fun _ => ?_
    simp only [gw]
    exact tail

end Go.Proofs.YtbcfknboheghkaaGreat
