/- The contract of the reference's IsProgram. No condition. -/
import Derived.Test.YtioleipoomgmhaaP1
import Derived.Test.YtioleipoomgmhaaB0
namespace Go.Proofs.Ytioleipoomgmhaa
open Go.Ab

/- loop.example/g01343/spec.l09Is -/
def f46.l2 (Q : Post) (v4 : Value) (v1 : Value) (i_5 : Value) (I1 : St [5] → Heap → Prop) (I2 : St [6] → Heap → Prop) (k_6 : Value) (H : Heap) : Prop :=
  W.bin .lss k_6 v4 H fun v41 H =>
  W.cond v41 H
  (fun H => W.fieldAddr 0 v1 H fun v42 H =>
   W.get v42 H fun v43 H =>
   W.indexAddr 1 v43 i_5 H fun v44 H =>
   W.get v44 H fun v45 H =>
   W.indexAddr 1 v45 k_6 H fun v46 H =>
   W.get v46 H fun v47 H =>
   W.call Try.prog (.func (.func 56) #[] #[]) #[v47, (.int .i64 (-20)), (.int .i64 20)] H fun v48 H =>
   W.un .not v48 H fun v49 H =>
   W.cond v49 H
   (fun H => Q (.bool false) H)
   (fun H => W.bin .add k_6 (.int .i64 1) H fun v50 H =>
    I2 (v50, ()) H))
  (fun H => W.bin .add i_5 (.int .i64 1) H fun v51 H =>
   I1 (v51, ()) H)
def f46.l4 (Q : Post) (i_7 : Value) (v1 : Value) (I3 : St [7] → Heap → Prop) (I4 : St [8] → Heap → Prop) (k_8 : Value) (H : Heap) : Prop :=
  W.bin .lss k_8 i_7 H fun v53 H =>
  W.cond v53 H
  (fun H => W.fieldAddr 0 v1 H fun v54 H =>
   W.get v54 H fun v55 H =>
   W.indexAddr 1 v55 i_7 H fun v56 H =>
   W.get v56 H fun v57 H =>
   W.indexAddr 1 v57 k_8 H fun v58 H =>
   W.get v58 H fun v59 H =>
   W.fieldAddr 0 v1 H fun v60 H =>
   W.get v60 H fun v61 H =>
   W.indexAddr 1 v61 k_8 H fun v62 H =>
   W.get v62 H fun v63 H =>
   W.indexAddr 1 v63 i_7 H fun v64 H =>
   W.get v64 H fun v65 H =>
   W.bin .neq v59 v65 H fun v66 H =>
   W.cond v66 H
   (fun H => Q (.bool false) H)
   (fun H => W.bin .add k_8 (.int .i64 1) H fun v67 H =>
    I4 (v67, ()) H))
  (fun H => W.bin .add i_7 (.int .i64 1) H fun v68 H =>
   I3 (v68, ()) H)
def f46.l6 (Q : Post) (v4 : Value) (v1 : Value) (j_9 : Value) (I5 : St [9] → Heap → Prop) (I6 : St [10] → Heap → Prop) (k_10 : Value) (H : Heap) : Prop :=
  W.bin .lss k_10 v4 H fun v84 H =>
  W.cond v84 H
  (fun H => W.fieldAddr 2 v1 H fun v85 H =>
   W.get v85 H fun v86 H =>
   W.indexAddr 1 v86 j_9 H fun v87 H =>
   W.get v87 H fun v88 H =>
   W.indexAddr 1 v88 k_10 H fun v89 H =>
   W.get v89 H fun v90 H =>
   W.call Try.prog (.func (.func 56) #[] #[]) #[v90, (.int .i64 (-20)), (.int .i64 20)] H fun v91 H =>
   W.un .not v91 H fun v92 H =>
   W.cond v92 H
   (fun H => Q (.bool false) H)
   (fun H => W.bin .add k_10 (.int .i64 1) H fun v93 H =>
    I6 (v93, ()) H))
  (fun H => W.bin .add j_9 (.int .i64 1) H fun v94 H =>
   I5 (v94, ()) H)
def f46.l5 (Q : Post) (v7 : Value) (v1 : Value) (v4 : Value) (I5 : St [9] → Heap → Prop) (j_9 : Value) (H : Heap) : Prop :=
  W.bin .lss j_9 v7 H fun v69 H =>
  W.cond v69 H
  (fun H => W.fieldAddr 2 v1 H fun v70 H =>
   W.get v70 H fun v71 H =>
   W.indexAddr 1 v71 j_9 H fun v72 H =>
   W.get v72 H fun v73 H =>
   W.len v73 H fun v74 H =>
   W.bin .neq v74 v4 H fun v75 H =>
   W.guarded v75 false (fun H k => W.fieldAddr 3 v1 H k) H fun v76 H =>
   W.guarded v75 false (fun H k => W.get v76 H k) H fun v77 H =>
   W.guarded v75 false (fun H k => k j_9 H) H fun v78 H =>
   W.guarded v75 false (fun H k => W.indexAddr 1 v77 v78 H k) H fun v79 H =>
   W.guarded v75 false (fun H k => W.get v79 H k) H fun v80 H =>
   W.guarded v75 false (fun H k => W.call Try.prog (.func (.func 56) #[] #[]) #[v80, (.int .i64 (-100)), (.int .i64 100)] H k) H fun v81 H =>
   W.guarded v75 false (fun H k => W.un .not v81 H k) H fun v82 H =>
   W.pick v75 (.bool true) v82 H fun v83 H =>
   W.cond v83 H
   (fun H => Q (.bool false) H)
   (fun H => W.loop (S := St [10]) (fun I6 s H => f46.l6 Q v4 v1 j_9 I5 I6 s.1 H) ((.int .i64 0), ()) H))
  (fun H => Q (.bool true) H)
def f46.l3 (Q : Post) (v4 : Value) (v1 : Value) (v7 : Value) (I3 : St [7] → Heap → Prop) (i_7 : Value) (H : Heap) : Prop :=
  W.bin .lss i_7 v4 H fun v52 H =>
  W.cond v52 H
  (fun H => W.loop (S := St [8]) (fun I4 s H => f46.l4 Q i_7 v1 I3 I4 s.1 H) ((.int .i64 0), ()) H)
  (fun H => W.loop (S := St [9]) (fun I5 s H => f46.l5 Q v7 v1 v4 I5 s.1 H) ((.int .i64 0), ()) H)
def f46.l1 (Q : Post) (v4 : Value) (v1 : Value) (v7 : Value) (I1 : St [5] → Heap → Prop) (i_5 : Value) (H : Heap) : Prop :=
  W.bin .lss i_5 v4 H fun v26 H =>
  W.cond v26 H
  (fun H => W.fieldAddr 0 v1 H fun v27 H =>
   W.get v27 H fun v28 H =>
   W.indexAddr 1 v28 i_5 H fun v29 H =>
   W.get v29 H fun v30 H =>
   W.len v30 H fun v31 H =>
   W.bin .neq v31 v4 H fun v32 H =>
   W.guarded v32 false (fun H k => W.fieldAddr 1 v1 H k) H fun v33 H =>
   W.guarded v32 false (fun H k => W.get v33 H k) H fun v34 H =>
   W.guarded v32 false (fun H k => k i_5 H) H fun v35 H =>
   W.guarded v32 false (fun H k => W.indexAddr 1 v34 v35 H k) H fun v36 H =>
   W.guarded v32 false (fun H k => W.get v36 H k) H fun v37 H =>
   W.guarded v32 false (fun H k => W.call Try.prog (.func (.func 56) #[] #[]) #[v37, (.int .i64 (-100)), (.int .i64 100)] H k) H fun v38 H =>
   W.guarded v32 false (fun H k => W.un .not v38 H k) H fun v39 H =>
   W.pick v32 (.bool true) v39 H fun v40 H =>
   W.cond v40 H
   (fun H => Q (.bool false) H)
   (fun H => W.loop (S := St [6]) (fun I2 s H => f46.l2 Q v4 v1 i_5 I1 I2 s.1 H) ((.int .i64 0), ()) H))
  (fun H => W.loop (S := St [7]) (fun I3 s H => f46.l3 Q v4 v1 v7 I3 s.1 H) ((.int .i64 0), ()) H)
def f46.w (Q : Post) (p_0 : Value) (H : Heap) : Prop :=
  W.box p_0 41 H fun v1 H =>
  W.fieldAddr 1 v1 H fun v2 H =>
  W.get v2 H fun v3 H =>
  W.len v3 H fun v4 H =>
  W.fieldAddr 3 v1 H fun v5 H =>
  W.get v5 H fun v6 H =>
  W.len v6 H fun v7 H =>
  W.bin .lss v4 (.int .i64 1) H fun v8 H =>
  W.guarded v8 false (fun H k => k v4 H) H fun v9 H =>
  W.guarded v8 false (fun H k => k v7 H) H fun v10 H =>
  W.guarded v8 false (fun H k => W.bin .add v9 v10 H k) H fun v11 H =>
  W.guarded v8 false (fun H k => W.bin .gtr v11 (.int .i64 5) H k) H fun v12 H =>
  W.pick v8 (.bool true) v12 H fun v13 H =>
  W.guarded v13 false (fun H k => W.fieldAddr 0 v1 H k) H fun v14 H =>
  W.guarded v13 false (fun H k => W.get v14 H k) H fun v15 H =>
  W.guarded v13 false (fun H k => W.len v15 H k) H fun v16 H =>
  W.guarded v13 false (fun H k => k v4 H) H fun v17 H =>
  W.guarded v13 false (fun H k => W.bin .neq v16 v17 H k) H fun v18 H =>
  W.pick v13 (.bool true) v18 H fun v19 H =>
  W.guarded v19 false (fun H k => W.fieldAddr 2 v1 H k) H fun v20 H =>
  W.guarded v19 false (fun H k => W.get v20 H k) H fun v21 H =>
  W.guarded v19 false (fun H k => W.len v21 H k) H fun v22 H =>
  W.guarded v19 false (fun H k => k v7 H) H fun v23 H =>
  W.guarded v19 false (fun H k => W.bin .neq v22 v23 H k) H fun v24 H =>
  W.pick v19 (.bool true) v24 H fun v25 H =>
  W.cond v25 H
  (fun H => Q (.bool false) H)
  (fun H => W.loop (S := St [5]) (fun I1 s H => f46.l1 Q v4 v1 v7 I1 s.1 H) ((.int .i64 0), ()) H)
theorem f46.enter {Q : Post} {p_0 : Value} {H : Heap} (h : f46.w Q p_0 H) : Runs Try.prog 46 #[p_0] H Q :=
  fn_enter (ann := [(5, [5]), (10, [6]), (15, [7]), (18, [8]), (23, [9]), (28, [10])]) (by kernel_rfl) Try.func46 rfl (by kernel_rfl) h (by kernel_rfl)


theorem fn46 {H0 : Heap} {Q : Post} {cs : List Value} {p : Prg} (hr : Has RPrg H0 cs p) (hw : wPrg p ≤ 1048576) (hQ : ∀ H' b, H0.Le H' → (b = true ↔ IsPrg p) → Q (.bool b) H') : Runs Try.prog 46 #[.agg cs.toArray] H0 Q := by
  obtain ⟨u1, u2, u3, u4, rfl, r1, r2, r3, r4⟩ := hasPrg hr
  simp only [szp, wl] at hw
  have hF : ∀ H', H0.Le H' → ¬ IsPrg p → Q (.bool false) H' := fun H' l h => hQ H' _ l ⟨fun e => Bool.noConfusion e, fun g => absurd g h⟩
  refine f46.enter ?_
  unfold f46.w
  have h := ((((Loc.start H0).lent r1).lent r2).lent r3).lent r4
  refine Wl.box h fun H b h => Wi.fieldAddr0 (Wl.get h rfl (Wl.len h (Wi.fieldAddr0 (Wl.get h rfl (Wl.len h (Wi.lssC (fun hlt => ?_) fun h1 => ?_))))))
  · exact hF _ h.le fun g => by have := g.n1; omega
  simp only [g4]
  refine Wi.add (by unfold I64; omega) (Wi.gtrC (fun hgt => ?_) fun h2 => ?_)
  · exact hF _ h.le fun g => by have := g.nm; omega
  simp only [g4, g6]
  refine Wi.fieldAddr0 (Wl.get h rfl (Wl.len h (Wi.neqC (fun hne => ?_) fun h3 => ?_)))
  · exact hF _ h.le fun g => by have := g.dl; omega
  simp only [g4, g6]
  refine Wi.fieldAddr0 (Wl.get h rfl (Wl.len h (Wi.neqC (fun hne => ?_) fun h4 => ?_)))
  · exact hF _ h.le fun g => by have := g.al; omega
  simp only [g6, g8]
  -- the rows of D, and C
  refine W.all_rule p.2.1.length (fun i => decide ((p.1.getD i []).length = p.2.1.length) && inR (-100) 100 (p.2.1.getD i 0) && allUp 20 (p.1.getD i [])) (fun i H1 J hi _ l hJ => ?_) fun H1 J hall l => ?_
  · have h := h.to l
    have hi1 : i < p.1.length := by omega
    have e1 : p.1.getD i [] = p.1[i] := by simp [List.getD_eq_getElem?_getD, List.getElem?_eq_getElem hi1]
    have e2 : p.2.1.getD i 0 = p.2.1[i] := by simp [List.getD_eq_getElem?_getD, List.getElem?_eq_getElem hi]
    refine Wi.lssC (fun _ => Wi.tru (Wi.fieldAddr0 (Wl.get h rfl (Wl.at1 rfl h hi1 fun w hw' => Wl.lenH hw' (Wi.neqC (fun hne => ?_) fun heq => ?_))))) fun h => by omega
    · exact hF _ h.le fun g => hne (by rw [(g.d _ (List.getElem_mem hi1)).1])
    simp only [g4]
    refine Wi.fieldAddr0 (Wl.get h rfl (Wl.atInt h hi fun _ => Wi.call (fn56 ?_)))
    cases hc : inR (-100) 100 p.2.1[i] with
    | false => exact hF _ h.le fun g => by rw [inR_iff.2 (g.c _ (List.getElem_mem hi))] at hc; cases hc
    | true =>
    simp only [g4, g6, g8, g9]
    refine W.all_rule p.2.1.length (fun k => inR (-20) 20 (p.1[i].getD k 0)) (fun k H2 J2 hk _ l2 hJ2 => ?_) fun H2 J2 hall2 l2 => ?_
    · have h := h.to l2
      have hk1 : k < p.1[i].length := by omega
      have e3 : p.1[i].getD k 0 = p.1[i][k] := by simp [List.getD_eq_getElem?_getD, List.getElem?_eq_getElem hk1]
      refine Wi.lssC (fun _ => Wi.tru (Wi.fieldAddr0 (Wl.get h rfl (Wl.at1 rfl h hi1 fun w2 hw2 => Wl.atIntH hw2 hk1 fun _ => Wi.call (fn56 ?_))))) fun h => by omega
      cases hx : inR (-20) 20 p.1[i][k] with
      | false => exact hF _ h.le fun g => by rw [inR_iff.2 ((g.d _ (List.getElem_mem hi1)).2 _ (List.getElem_mem hk1))] at hx; cases hx
      | true =>
      simp only [g8, g9]
      refine Wi.add (by unfold I64; omega) (hJ2 ?_ H2 (.refl _))
      rw [e3]
      exact hx
    · refine Wi.lssC (fun h => by omega) fun _ => Wi.fls (Wi.add (by unfold I64; omega) (hJ ?_ H2 l2))
      rw [e1, e2, hc]
      have : p.1[i].length = p.2.1.length := by omega
      simp only [this, decide_true, Bool.true_and]
      refine allUp_iff.2 fun x hx => ?_
      obtain ⟨k, hk, rfl⟩ := List.mem_iff_getElem.1 hx
      have := hall2 k (by omega)
      rw [List.getD_eq_getElem?_getD, List.getElem?_eq_getElem hk, Option.getD_some] at this
      exact inR_iff.1 this
  refine Wi.lssC (fun h => by omega) fun _ => Wi.fls ?_
  have h := h.to l
  have hrow : ∀ i (hi : i < p.1.length), p.1[i].length = p.2.1.length ∧ ∀ x ∈ p.1[i], -20 ≤ x ∧ x ≤ 20 := fun i hi => by
    have := hall i (by omega)
    simp only [List.getD_eq_getElem?_getD, List.getElem?_eq_getElem hi, Option.getD_some, Bool.and_eq_true, decide_eq_true_eq] at this
    exact ⟨this.1.1, allUp_iff.1 this.2⟩
  have hC : ∀ x ∈ p.2.1, -100 ≤ x ∧ x ≤ 100 := fun x hx => by
    obtain ⟨i, hi, rfl⟩ := List.mem_iff_getElem.1 hx
    have := hall i hi
    simp only [List.getD_eq_getElem?_getD, List.getElem?_eq_getElem hi, Option.getD_some, Bool.and_eq_true, decide_eq_true_eq] at this
    exact inR_iff.1 this.1.2
  clear hall
  -- symmetric
  refine W.all_rule p.2.1.length (fun i => allN i fun k => decide ((p.1.getD i []).getD k 0 = (p.1.getD k []).getD i 0)) (fun i H1 J hi _ l hJ => ?_) fun H1 J hall l => ?_
  · have h := h.to l
    have hi1 : i < p.1.length := by omega
    refine Wi.lssC (fun _ => Wi.tru ?_) fun h => by omega
    refine W.all_rule i (fun k => decide ((p.1.getD i []).getD k 0 = (p.1.getD k []).getD i 0)) (fun k H2 J2 hk _ l2 hJ2 => ?_) fun H2 J2 hall2 l2 => ?_
    · have h := h.to l2
      have hk1 : k < p.1.length := by omega
      have hi2 : i < p.1[k].length := by rw [(hrow k hk1).1]; omega
      have hk2 : k < p.1[i].length := by rw [(hrow i hi1).1]; omega
      refine Wi.lssC (fun _ => Wi.tru (Wi.fieldAddr0 (Wl.get h rfl (Wl.at1 rfl h hi1 fun w1 hw1 => Wl.atIntH hw1 hk2 fun _ => Wi.fieldAddr0 (Wl.get h rfl (Wl.at1 rfl h hk1 fun w2 hw2 => Wl.atIntH hw2 hi2 fun _ => Wi.neqC (fun hne => ?_) fun heq => ?_)))))) fun h => by omega
      · exact hF _ h.le fun g => hne (g.sym i k hi1 hk1 hk2 hi2)
      · simp only [g8]
        refine Wi.add (by unfold I64; omega) (hJ2 ?_ H2 (.refl _))
        simpa [List.getD_eq_getElem?_getD, List.getElem?_eq_getElem hi1, List.getElem?_eq_getElem hk1, List.getElem?_eq_getElem hk2, List.getElem?_eq_getElem hi2] using heq
    · exact Wi.lssC (fun h => by omega) fun _ => Wi.fls (Wi.add (by unfold I64; omega) (hJ (allN_true hall2) H2 l2))
  refine Wi.lssC (fun h => by omega) fun _ => Wi.fls ?_
  have h := h.to l
  have hsym0 : ∀ i k (hi : i < p.1.length) (hk : k < p.1.length) (h1 : k < p.1[i].length) (h2 : i < p.1[k].length), k < i → p.1[i][k] = p.1[k][i] := fun i k hi hk h1 h2 hlt => by
    have := allN_iff.1 (hall i (by omega)) k hlt
    simpa [List.getD_eq_getElem?_getD, List.getElem?_eq_getElem hi, List.getElem?_eq_getElem hk, List.getElem?_eq_getElem h1, List.getElem?_eq_getElem h2] using this
  clear hall
  -- the rows of A, and B
  refine W.all_rule p.2.2.2.length (fun j => decide ((p.2.2.1.getD j []).length = p.2.1.length) && inR (-100) 100 (p.2.2.2.getD j 0) && allUp 20 (p.2.2.1.getD j [])) (fun i H1 J hi _ l hJ => ?_) fun H1 J hall l => ?_
  · have h := h.to l
    have hi1 : i < p.2.2.1.length := by omega
    have e1 : p.2.2.1.getD i [] = p.2.2.1[i] := by simp [List.getD_eq_getElem?_getD, List.getElem?_eq_getElem hi1]
    have e2 : p.2.2.2.getD i 0 = p.2.2.2[i] := by simp [List.getD_eq_getElem?_getD, List.getElem?_eq_getElem hi]
    refine Wi.lssC (fun _ => Wi.tru (Wi.fieldAddr0 (Wl.get h rfl (Wl.at1 rfl h hi1 fun w hw' => Wl.lenH hw' (Wi.neqC (fun hne => ?_) fun heq => ?_))))) fun h => by omega
    · exact hF _ h.le fun g => hne (by rw [(g.a _ (List.getElem_mem hi1)).1])
    simp only [g4]
    refine Wi.fieldAddr0 (Wl.get h rfl (Wl.atInt h hi fun _ => Wi.call (fn56 ?_)))
    cases hc : inR (-100) 100 p.2.2.2[i] with
    | false => exact hF _ h.le fun g => by rw [inR_iff.2 (g.b _ (List.getElem_mem hi))] at hc; cases hc
    | true =>
    simp only [g4, g6, g8, g9]
    refine W.all_rule p.2.1.length (fun k => inR (-20) 20 (p.2.2.1[i].getD k 0)) (fun k H2 J2 hk _ l2 hJ2 => ?_) fun H2 J2 hall2 l2 => ?_
    · have h := h.to l2
      have hk1 : k < p.2.2.1[i].length := by omega
      have e3 : p.2.2.1[i].getD k 0 = p.2.2.1[i][k] := by simp [List.getD_eq_getElem?_getD, List.getElem?_eq_getElem hk1]
      refine Wi.lssC (fun _ => Wi.tru (Wi.fieldAddr0 (Wl.get h rfl (Wl.at1 rfl h hi1 fun w2 hw2 => Wl.atIntH hw2 hk1 fun _ => Wi.call (fn56 ?_))))) fun h => by omega
      cases hx : inR (-20) 20 p.2.2.1[i][k] with
      | false => exact hF _ h.le fun g => by rw [inR_iff.2 ((g.a _ (List.getElem_mem hi1)).2 _ (List.getElem_mem hk1))] at hx; cases hx
      | true =>
      simp only [g8, g9]
      refine Wi.add (by unfold I64; omega) (hJ2 ?_ H2 (.refl _))
      rw [e3]
      exact hx
    · refine Wi.lssC (fun h => by omega) fun _ => Wi.fls (Wi.add (by unfold I64; omega) (hJ ?_ H2 l2))
      rw [e1, e2, hc]
      have : p.2.2.1[i].length = p.2.1.length := by omega
      simp only [this, decide_true, Bool.true_and]
      refine allUp_iff.2 fun x hx => ?_
      obtain ⟨k, hk, rfl⟩ := List.mem_iff_getElem.1 hx
      have := hall2 k (by omega)
      rw [List.getD_eq_getElem?_getD, List.getElem?_eq_getElem hk, Option.getD_some] at this
      exact inR_iff.1 this
  refine Wi.lssC (fun h => by omega) fun _ => Wi.fls (hQ _ _ (h.le.trans l) ⟨fun _ => ?_, fun _ => rfl⟩)
  refine ⟨by omega, by omega, by omega, by omega, fun r hr => ?_, hC, fun x hx => ?_, fun r hr => ?_, fun i k hi hk h1 h2 => ?_⟩
  · obtain ⟨i, hi, rfl⟩ := List.mem_iff_getElem.1 hr
    exact hrow i hi
  · obtain ⟨i, hi, rfl⟩ := List.mem_iff_getElem.1 hx
    have := hall i hi
    simp only [List.getD_eq_getElem?_getD, List.getElem?_eq_getElem hi, Option.getD_some, Bool.and_eq_true, decide_eq_true_eq] at this
    exact inR_iff.1 this.1.2
  · obtain ⟨i, hi, rfl⟩ := List.mem_iff_getElem.1 hr
    have := hall i (by omega)
    simp only [List.getD_eq_getElem?_getD, List.getElem?_eq_getElem hi, Option.getD_some, Bool.and_eq_true, decide_eq_true_eq] at this
    exact ⟨this.1.1, allUp_iff.1 this.2⟩
  · rcases Nat.lt_trichotomy i k with hlt | rfl | hlt
    · exact (hsym0 k i hk hi h2 h1 hlt).symm
    · rfl
    · exact hsym0 i k hi hk h1 h2 hlt


end Go.Proofs.Ytioleipoomgmhaa
