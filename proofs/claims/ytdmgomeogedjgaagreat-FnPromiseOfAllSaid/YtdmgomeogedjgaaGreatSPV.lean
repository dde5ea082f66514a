/- PivotOf of the reference at covering sets: its code. IsOfKind for the kind 0, any matrix. No condition. -/
import Derived.Test.YtdmgomeogedjgaaGreatSQ3
import Derived.Test.YtdmgomeogedjgaaGreatIK0
namespace Go.Proofs.YtdmgomeogedjgaaGreat
open Go.Ab

/- loop.example/g01343/spec.PivotOf -/
def f19.w (Q : Post) (p_0 : Value) (s_1 : Value) (H : Heap) : Prop :=
  W.box p_0 31 H fun v1 H =>
  W.new [(.int .i64 0), (.slice none 0 0), (.slice none 0 0)] 45 H fun v2 H =>
  W.getN 2 v1 H fun v3 H =>
  W.call Tryz.prog (.func (.func 41) #[] #[]) #[v3, s_1] H fun v4 H =>
  W.bin .neq v4 (.int .i64 0) H fun v5 H =>
  W.cond v5 H
  (fun H => W.build [(.int .i64 0), (.slice none 0 0), (.slice none 0 0)] [] H fun v6 H =>
   W.putN 3 v2 v6 H fun _ H =>
   W.getN 3 v2 H fun v7 H => Q (.tuple #[v7, v4]) H)
  (fun H => W.getN 2 v1 H fun v8 H =>
   W.call Tryz.prog (.func (.func 42) #[] #[]) #[v8, s_1] H fun v9 H =>
   W.extract 0 v9 H fun v10 H =>
   W.extract 1 v9 H fun v11 H =>
   W.new [(.int .i64 0), (.slice none 0 0), (.slice none 0 0)] 45 H fun v12 H =>
   W.putN 3 v12 v10 H fun _ H =>
   W.un .not v11 H fun v13 H =>
   W.cond v13 H
   (fun H => W.build [(.int .i64 0), (.slice none 0 0), (.slice none 0 0)] [] H fun v14 H =>
    W.putN 3 v2 v14 H fun _ H =>
    W.getN 3 v2 H fun v15 H => Q (.tuple #[v15, (.int .i64 5)]) H)
   (fun H => W.getN 3 v12 H fun v16 H =>
    W.putN 3 v2 v16 H fun _ H =>
    W.getN 3 v2 H fun v17 H => Q (.tuple #[v17, (.int .i64 0)]) H))
theorem f19.enter {Q : Post} {p_0 : Value} {s_1 : Value} {H : Heap} (h : f19.w Q p_0 s_1 H) : Runs Tryz.prog 19 #[p_0, s_1] H Q :=
  fn_enter (ann := []) (by kernel_rfl) Tryz.func19 rfl (by kernel_rfl) h (by kernel_rfl)

/- loop.example/g01343/spec.l04Pivot -/
def f42.j2 (Q : Post) (i_15 : Value) (I3 : St [15] → Heap → Prop) (H : Heap) : Prop :=
  W.bin .add i_15 (.int .i64 1) H fun v53 H =>
  I3 (v53, ()) H
def f42.l4 (Q : Post) (v5 : Value) (v22 : Value) (v60 : Value) (sign_10 : Value) (k_13 : Value) (I2 : St [13] → Heap → Prop) (I4 : St [18] → Heap → Prop) (i_18 : Value) (H : Heap) : Prop :=
  W.bin .lss i_18 v5 H fun v62 H =>
  W.cond v62 H
  (fun H => W.fieldAddr 1 v22 H fun v63 H =>
   W.get v63 H fun v64 H =>
   W.indexAddr 1 v64 i_18 H fun v65 H =>
   W.get v65 H fun v66 H =>
   W.indexAddr 1 v60 i_18 H fun v67 H =>
   W.get v67 H fun v68 H =>
   W.bin .mul sign_10 v68 H fun v69 H =>
   W.indexAddr 1 v66 k_13 H fun v70 H =>
   W.put v70 v69 H fun _ H =>
   W.bin .add i_18 (.int .i64 1) H fun v71 H =>
   I4 (v71, ()) H)
  (fun H => W.bin .add k_13 (.int .i64 1) H fun v72 H =>
   I2 (v72, ()) H)
def f42.j3 (Q : Post) (v8 : Value) (v40 : Value) (v5 : Value) (v22 : Value) (sign_10 : Value) (k_13 : Value) (I2 : St [13] → Heap → Prop) (H : Heap) : Prop :=
  W.call Tryz.prog (.func (.func 77) #[] #[]) #[v8, v40] H fun v59 H =>
  W.extract 0 v59 H fun v60 H =>
  W.extract 1 v59 H fun v61 H =>
  W.loop (S := St [18]) (fun I4 s H => f42.l4 Q v5 v22 v60 sign_10 k_13 I2 I4 s.1 H) ((.int .i64 0), ()) H
def f42.l3 (Q : Post) (v5 : Value) (k_13 : Value) (s_1 : Value) (v1 : Value) (v40 : Value) (v8 : Value) (v22 : Value) (sign_10 : Value) (I2 : St [13] → Heap → Prop) (I3 : St [15] → Heap → Prop) (i_15 : Value) (H : Heap) : Prop :=
  W.bin .lss i_15 v5 H fun v41 H =>
  W.cond v41 H
  (fun H => W.conv .u64 k_13 H fun v42 H =>
   W.bin .shr s_1 v42 H fun v43 H =>
   W.bin .and v43 (.int .i64 1) H fun v44 H =>
   W.bin .eql v44 (.int .i64 0) H fun v45 H =>
   W.cond v45 H
   (fun H => W.fieldAddr 0 v1 H fun v46 H =>
    W.get v46 H fun v47 H =>
    W.indexAddr 1 v47 i_15 H fun v48 H =>
    W.get v48 H fun v49 H =>
    W.indexAddr 1 v49 k_13 H fun v50 H =>
    W.get v50 H fun v51 H =>
    W.indexAddr 1 v40 i_15 H fun v52 H =>
    W.put v52 v51 H fun _ H =>
    f42.j2 Q i_15 I3 H)
   (fun H => f42.j2 Q i_15 I3 H))
  (fun H => W.conv .u64 k_13 H fun v54 H =>
   W.bin .shr s_1 v54 H fun v55 H =>
   W.bin .and v55 (.int .i64 1) H fun v56 H =>
   W.bin .eql v56 (.int .i64 1) H fun v57 H =>
   W.cond v57 H
   (fun H => W.indexAddr 1 v40 k_13 H fun v58 H =>
    W.put v58 (.int .i64 (-1)) H fun _ H =>
    f42.j3 Q v8 v40 v5 v22 sign_10 k_13 I2 H)
   (fun H => f42.j3 Q v8 v40 v5 v22 sign_10 k_13 I2 H))
def f42.l2 (Q : Post) (v5 : Value) (s_1 : Value) (v1 : Value) (v8 : Value) (v22 : Value) (sign_10 : Value) (v2 : Value) (I2 : St [13] → Heap → Prop) (k_13 : Value) (H : Heap) : Prop :=
  W.bin .lss k_13 v5 H fun v39 H =>
  W.cond v39 H
  (fun H => W.make [(.int .i64 0)] 2 v5 v5 H fun v40 H =>
   W.loop (S := St [15]) (fun I3 s H => f42.l3 Q v5 k_13 s_1 v1 v40 v8 v22 sign_10 I2 I3 s.1 H) ((.int .i64 0), ()) H)
  (fun H => W.getN 3 v22 H fun v73 H =>
   W.putN 3 v2 v73 H fun _ H =>
   W.getN 3 v2 H fun v74 H => Q (.tuple #[v74, (.bool true)]) H)
def f42.l1 (Q : Post) (v5 : Value) (v22 : Value) (v12 : Value) (sign_10 : Value) (s_1 : Value) (v1 : Value) (v8 : Value) (v2 : Value) (I1 : St [12] → Heap → Prop) (i_12 : Value) (H : Heap) : Prop :=
  W.bin .lss i_12 v5 H fun v23 H =>
  W.cond v23 H
  (fun H => W.fieldAddr 1 v22 H fun v24 H =>
   W.get v24 H fun v25 H =>
   W.make [(.int .i64 0)] 2 v5 v5 H fun v26 H =>
   W.lit 1 [(.slice none 0 0)] 29 [(0, 1, v26)] H fun v27 H =>
   W.append 1 29 v25 v27 H fun v28 H =>
   W.fieldAddr 1 v22 H fun v29 H =>
   W.put v29 v28 H fun _ H =>
   W.fieldAddr 2 v22 H fun v30 H =>
   W.get v30 H fun v31 H =>
   W.indexAddr 1 v12 i_12 H fun v32 H =>
   W.get v32 H fun v33 H =>
   W.bin .mul sign_10 v33 H fun v34 H =>
   W.lit 1 [(.int .i64 0)] 2 [(0, 1, v34)] H fun v35 H =>
   W.append 1 2 v31 v35 H fun v36 H =>
   W.fieldAddr 2 v22 H fun v37 H =>
   W.put v37 v36 H fun _ H =>
   W.bin .add i_12 (.int .i64 1) H fun v38 H =>
   I1 (v38, ()) H)
  (fun H => W.loop (S := St [13]) (fun I2 s H => f42.l2 Q v5 s_1 v1 v8 v22 sign_10 v2 I2 s.1 H) ((.int .i64 0), ()) H)
def f42.j1 (Q : Post) (v13 : Value) (v5 : Value) (v12 : Value) (s_1 : Value) (v1 : Value) (v8 : Value) (v2 : Value) (sign_10 : Value) (H : Heap) : Prop :=
  W.bin .mul sign_10 v13 H fun v18 H =>
  W.lit 0 [(.slice none 0 0)] 29 [] H fun v19 H =>
  W.lit 0 [(.int .i64 0)] 2 [] H fun v20 H =>
  W.build [(.int .i64 0), (.slice none 0 0), (.slice none 0 0)] [(0, 1, v18), (1, 1, v19), (2, 1, v20)] H fun v21 H =>
  W.new [(.int .i64 0), (.slice none 0 0), (.slice none 0 0)] 45 H fun v22 H =>
  W.putN 3 v22 v21 H fun _ H =>
  W.loop (S := St [12]) (fun I1 s H => f42.l1 Q v5 v22 v12 sign_10 s_1 v1 v8 v2 I1 s.1 H) ((.int .i64 0), ()) H
def f42.w (Q : Post) (p_0 : Value) (s_1 : Value) (H : Heap) : Prop :=
  W.box p_0 31 H fun v1 H =>
  W.new [(.int .i64 0), (.slice none 0 0), (.slice none 0 0)] 45 H fun v2 H =>
  W.fieldAddr 1 v1 H fun v3 H =>
  W.get v3 H fun v4 H =>
  W.len v4 H fun v5 H =>
  W.fieldAddr 0 v1 H fun v6 H =>
  W.get v6 H fun v7 H =>
  W.callQ Tryz.prog (.func (.func 78) #[] #[]) #[v7, s_1] H fun v8 H =>
  W.fieldAddr 1 v1 H fun v9 H =>
  W.get v9 H fun v10 H =>
  W.call Tryz.prog (.func (.func 77) #[] #[]) #[v8, v10] H fun v11 H =>
  W.extract 0 v11 H fun v12 H =>
  W.extract 1 v11 H fun v13 H =>
  W.bin .eql v13 (.int .i64 0) H fun v14 H =>
  W.cond v14 H
  (fun H => W.build [(.int .i64 0), (.slice none 0 0), (.slice none 0 0)] [] H fun v15 H =>
   W.putN 3 v2 v15 H fun _ H =>
   W.getN 3 v2 H fun v16 H => Q (.tuple #[v16, (.bool false)]) H)
  (fun H => W.bin .lss v13 (.int .i64 0) H fun v17 H =>
   W.cond v17 H
   (fun H => f42.j1 Q v13 v5 v12 s_1 v1 v8 v2 (.int .i64 (-1)) H)
   (fun H => f42.j1 Q v13 v5 v12 s_1 v1 v8 v2 (.int .i64 1) H))
theorem f42.enter {Q : Post} {p_0 : Value} {s_1 : Value} {H : Heap} (h : f42.w Q p_0 s_1 H) : Runs Tryz.prog 42 #[p_0, s_1] H Q :=
  fn_enter (ann := [(10, [12]), (15, [13]), (19, [15]), (27, [18])]) (by kernel_rfl) Tryz.func42 rfl (by kernel_rfl) h (by kernel_rfl)

/- loop.example/g01343/spec.l02Code -/
def f41.w (Q : Post) (p_0 : Value) (s_1 : Value) (H : Heap) : Prop :=
  W.box p_0 31 H fun v1 H =>
  W.getN 2 v1 H fun v2 H =>
  W.call Tryz.prog (.func (.func 27) #[] #[]) #[v2] H fun v3 H =>
  W.un .not v3 H fun v4 H =>
  W.cond v4 H
  (fun H => Q (.int .i64 1) H)
  (fun H => W.fieldAddr 1 v1 H fun v5 H =>
   W.get v5 H fun v6 H =>
   W.len v6 H fun v7 H =>
   W.conv .u64 v7 H fun v8 H =>
   W.bin .shl (.int .i64 1) v8 H fun v9 H =>
   W.bin .sub v9 (.int .i64 1) H fun v10 H =>
   W.call Tryz.prog (.func (.func 44) #[] #[]) #[s_1, (.int .i64 0), v10] H fun v11 H =>
   W.un .not v11 H fun v12 H =>
   W.cond v12 H
   (fun H => Q (.int .i64 2) H)
   (fun H => Q (.int .i64 0) H))
theorem f41.enter {Q : Post} {p_0 : Value} {s_1 : Value} {H : Heap} (h : f41.w Q p_0 s_1 H) : Runs Tryz.prog 41 #[p_0, s_1] H Q :=
  fn_enter (ann := []) (by kernel_rfl) Tryz.func41 rfl (by kernel_rfl) h (by kernel_rfl)

/- loop.example/g01343/spec.IsOfKind -/
def f20.w (Q : Post) (m_0 : Value) (kind_1 : Value) (H : Heap) : Prop :=
  W.call Tryz.prog (.func (.func 43) #[] #[]) #[m_0] H fun v1 H =>
  W.un .not v1 H fun v2 H =>
  W.cond v2 H
  (fun H => Q (.tuple #[(.bool false), (.int .i64 1)]) H)
  (fun H => W.call Tryz.prog (.func (.func 44) #[] #[]) #[kind_1, (.int .i64 0), (.int .i64 11)] H fun v3 H =>
   W.un .not v3 H fun v4 H =>
   W.cond v4 H
   (fun H => Q (.tuple #[(.bool false), (.int .i64 2)]) H)
   (fun H => W.call Tryz.prog (.func (.func 45) #[] #[]) #[m_0, kind_1] H fun v5 H =>
    Q (.tuple #[v5, (.int .i64 0)]) H))
theorem f20.enter {Q : Post} {m_0 : Value} {kind_1 : Value} {H : Heap} (h : f20.w Q m_0 kind_1 H) : Runs Tryz.prog 20 #[m_0, kind_1] H Q :=
  fn_enter (ann := []) (by kernel_rfl) Tryz.func20 rfl (by kernel_rfl) h (by kernel_rfl)

/- loop.example/g01343/spec.l03Kind -/
def f45.l2 (Q : Post) (i_5 : Value) (m_0 : Value) (I1 : St [5] → Heap → Prop) (I2 : St [6] → Heap → Prop) (k_6 : Value) (H : Heap) : Prop :=
  W.bin .lss k_6 i_5 H fun v34 H =>
  W.cond v34 H
  (fun H => W.indexAddr 1 m_0 i_5 H fun v35 H =>
   W.get v35 H fun v36 H =>
   W.indexAddr 1 v36 k_6 H fun v37 H =>
   W.get v37 H fun v38 H =>
   W.indexAddr 1 m_0 k_6 H fun v39 H =>
   W.get v39 H fun v40 H =>
   W.indexAddr 1 v40 i_5 H fun v41 H =>
   W.get v41 H fun v42 H =>
   W.bin .neq v38 v42 H fun v43 H =>
   W.cond v43 H
   (fun H => Q (.bool false) H)
   (fun H => W.bin .add k_6 (.int .i64 1) H fun v44 H =>
    I2 (v44, ()) H))
  (fun H => W.bin .add i_5 (.int .i64 1) H fun v45 H =>
   I1 (v45, ()) H)
def f45.l1 (Q : Post) (m_0 : Value) (I1 : St [5] → Heap → Prop) (i_5 : Value) (H : Heap) : Prop :=
  W.len m_0 H fun v32 H =>
  W.bin .lss i_5 v32 H fun v33 H =>
  W.cond v33 H
  (fun H => W.loop (S := St [6]) (fun I2 s H => f45.l2 Q i_5 m_0 I1 I2 s.1 H) ((.int .i64 0), ()) H)
  (fun H => Q (.bool true) H)
def f45.w (Q : Post) (m_0 : Value) (kind_1 : Value) (H : Heap) : Prop :=
  W.bin .eql kind_1 (.int .i64 0) H fun v1 H =>
  W.cond v1 H
  (fun H => W.call Tryz.prog (.func (.func 82) #[] #[]) #[m_0] H fun v2 H =>
   W.bin .gtr v2 (.int .i64 0) H fun v3 H =>
   Q v3 H)
  (fun H => W.bin .eql kind_1 (.int .i64 1) H fun v4 H =>
   W.cond v4 H
   (fun H => W.call Tryz.prog (.func (.func 82) #[] #[]) #[m_0] H fun v5 H =>
    W.bin .geq v5 (.int .i64 0) H fun v6 H =>
    Q v6 H)
   (fun H => W.bin .eql kind_1 (.int .i64 2) H fun v7 H =>
    W.cond v7 H
    (fun H => W.call Tryz.prog (.func (.func 83) #[] #[]) #[m_0] H fun v8 H =>
     Q v8 H)
    (fun H => W.bin .eql kind_1 (.int .i64 3) H fun v9 H =>
     W.cond v9 H
     (fun H => W.call Tryz.prog (.func (.func 83) #[] #[]) #[m_0] H fun v10 H =>
      W.guarded v10 true (fun H k => k m_0 H) H fun v11 H =>
      W.guarded v10 true (fun H k => W.call Tryz.prog (.func (.func 82) #[] #[]) #[v11] H k) H fun v12 H =>
      W.guarded v10 true (fun H k => W.bin .gtr v12 (.int .i64 0) H k) H fun v13 H =>
      W.pick v10 v13 (.bool false) H fun v14 H =>
      Q v14 H)
     (fun H => W.bin .eql kind_1 (.int .i64 4) H fun v15 H =>
      W.cond v15 H
      (fun H => W.call Tryz.prog (.func (.func 84) #[] #[]) #[m_0] H fun v16 H =>
       W.call Tryz.prog (.func (.func 82) #[] #[]) #[v16] H fun v17 H =>
       W.bin .gtr v17 (.int .i64 0) H fun v18 H =>
       Q v18 H)
      (fun H => W.bin .eql kind_1 (.int .i64 5) H fun v19 H =>
       W.cond v19 H
       (fun H => W.call Tryz.prog (.func (.func 85) #[] #[]) #[m_0] H fun v20 H =>
        W.call Tryz.prog (.func (.func 82) #[] #[]) #[v20] H fun v21 H =>
        W.bin .gtr v21 (.int .i64 0) H fun v22 H =>
        Q v22 H)
       (fun H => W.bin .eql kind_1 (.int .i64 6) H fun v23 H =>
        W.cond v23 H
        (fun H => W.call Tryz.prog (.func (.func 85) #[] #[]) #[m_0] H fun v24 H =>
         W.call Tryz.prog (.func (.func 82) #[] #[]) #[v24] H fun v25 H =>
         W.bin .geq v25 (.int .i64 0) H fun v26 H =>
         Q v26 H)
        (fun H => W.bin .eql kind_1 (.int .i64 7) H fun v27 H =>
         W.cond v27 H
         (fun H => W.call Tryz.prog (.func (.func 86) #[] #[]) #[m_0, (.bool false)] H fun v28 H =>
          Q v28 H)
         (fun H => W.bin .eql kind_1 (.int .i64 8) H fun v29 H =>
          W.cond v29 H
          (fun H => W.call Tryz.prog (.func (.func 86) #[] #[]) #[m_0, (.bool true)] H fun v30 H =>
           Q v30 H)
          (fun H => W.bin .eql kind_1 (.int .i64 9) H fun v31 H =>
           W.cond v31 H
           (fun H => W.loop (S := St [5]) (fun I1 s H => f45.l1 Q m_0 I1 s.1 H) ((.int .i64 0), ()) H)
           (fun H => W.bin .eql kind_1 (.int .i64 10) H fun v46 H =>
            W.cond v46 H
            (fun H => W.call Tryz.prog (.func (.func 87) #[] #[]) #[m_0] H fun v47 H =>
             Q v47 H)
            (fun H => W.call Tryz.prog (.func (.func 88) #[] #[]) #[m_0] H fun v48 H =>
             Q v48 H)))))))))))
theorem f45.enter {Q : Post} {m_0 : Value} {kind_1 : Value} {H : Heap} (h : f45.w Q m_0 kind_1 H) : Runs Tryz.prog 45 #[m_0, kind_1] H Q :=
  fn_enter (ann := [(22, [5]), (25, [6])]) (by kernel_rfl) Tryz.func45 rfl (by kernel_rfl) h (by kernel_rfl)


noncomputable def ikRes (m : List (List Int)) : Bool × Int := if isMat m = true then (pB m, 0) else (false, 1)

theorem fnQ11 {H0 : Heap} {Q : Post} {v : Value} {m : List (List Int)} (hr : Has RSS H0 [v] m) (hQ : ∀ H', H0.Le H' → Q (.tuple #[.bool (ikRes m).1, .int .i64 (ikRes m).2]) H') : Runs Tryz.prog 11 #[v, .int .i64 0] H0 Q := by
  cases hm : isMat m with
  | true =>
    have e : ikRes m = (pB m, 0) := if_pos hm
    rw [e] at hQ
    exact fnP11 hr hm hQ
  | false =>
    have e : ikRes m = (false, 1) := if_neg (by rw [hm]; decide)
    rw [e] at hQ
    obtain ⟨_, q⟩ := hr
    refine f11.enter (Wi.call (fn30 q fun H l => ?_))
    rw [hm]
    simp only [gw]
    exact hQ _ l

theorem fnQ20 {H0 : Heap} {Q : Post} {v : Value} {m : List (List Int)} (hr : Has RSS H0 [v] m) (hQ : ∀ H', H0.Le H' → Q (.tuple #[.bool (ikRes m).1, .int .i64 (ikRes m).2]) H') : Runs Tryz.prog 20 #[v, .int .i64 0] H0 Q := by
  have h := (Loc.start H0).lent hr
  obtain ⟨_, q⟩ := id hr
  refine f20.enter (Wi.call (fn43 q fun H l => ?_))
  have h := h.to l
  cases hm : isMat m with
  | false =>
    have e : ikRes m = (false, 1) := if_neg (by rw [hm]; decide)
    rw [e] at hQ
    simp only [gw]
    exact hQ _ l
  | true =>
  have e : ikRes m = (pB m, 0) := if_pos hm
  rw [e] at hQ
  obtain ⟨h1, h2, h3⟩ := mat_bound hm
  simp only [gw]
  refine Wi.call (fn44 ?_)
  rw [show inR 0 11 0 = true by decide]
  simp only [gw]
  refine Wi.call (f45.enter ?_)
  unfold f45.w
  refine Wi.eqlC (fun _ => Wi.tru ?_) fun g => absurd rfl g
  refine Wi.call (fn82 (h.rd (cs := [v]) (r := RSS) (x := m)) h1 h2 (fun r c => by have := h3 r c; omega) fun H r l2 g1 g2 => Wi.gtr ?_)
  have ed : decide (0 < r) = pB m := by
    unfold pB
    rw [Bool.eq_iff_iff, List.all_eq_true, decide_eq_true_iff]
    constructor
    · intro q x hx
      have := g2 x hx
      exact decide_eq_true (by omega)
    · intro q
      have := of_decide_eq_true (q r g1)
      omega
  rw [ed]
  exact hQ _ (h.to l2).le

theorem fnQ41 {H0 : Heap} {Q : Post} {cs : List Value} {p : Prob} {s : Nat} (hr : Has RProblem H0 cs p) (hp : isProb p = true) (hs : s < 2 ^ p.2.length) (hQ : ∀ H', H0.Le H' → Q (.int .i64 0) H') : Runs Tryz.prog 41 #[.agg cs.toArray, .int .i64 (s : Nat)] H0 Q := by
  obtain ⟨u1, u2, rfl, r1, r2⟩ := hasProb hr
  have hn := (PB.of hp).n5
  have h32 := pow5 hn
  have h := ((Loc.start H0).lent r2).lent hr
  refine f41.enter ?_
  unfold f41.w
  refine Wl.box (cs := [u1, u2]) h fun H b h => Wl.getA (b := b) h rfl ?_
  obtain ⟨_, q⟩ := h.rd (cs := [u1, u2]) (r := RProblem) (x := p)
  refine Wi.call (fn27 q fun H l => ?_)
  have h := h.to l
  rw [hp]
  simp only [gw]
  refine Wi.fieldAddr (Wl.get (b := b) (o := 1) h rfl (Wl.len (v := u2) (xs := p.2) h (Wi.convN (by omega) (Wi.shl1 (by omega) (Wi.sub (by unfold I64; omega) (Wi.call (fn44 ?_)))))))
  rw [inR_iff.2 ⟨by omega, by omega⟩]
  simp only [gw]
  exact hQ _ h.le

theorem fnQ42 {H0 : Heap} {Q : Post} {cs : List Value} {p : Prob} {n s : Nat} (hr : Has RProblem H0 cs p) (hp : PB n p) (hs : s < 2 ^ n) (hD : det n (mAt (colL n p.1 s)) ≠ 0) (hQ : ∀ H' d w1 w2, H0.Le H' → [d, w1, w2].all isCell = true → Q (.tuple #[.agg #[d, w1, w2], .bool true]) H') : Runs Tryz.prog 42 #[.agg cs.toArray, .int .i64 (s : Nat)] H0 Q := by
  obtain ⟨u1, u2, rfl, r1, r2⟩ := hasProb hr
  have hn := hp.n5
  have h32 := pow5 hn
  have hsq := hp.sq
  have hl1 := hsq.1
  have hql := hp.ql
  have hcs := tabL_sq n (colE p.1 s)
  have hcb : ∀ r c, r < n → c < n → (mAt (colL n p.1 s) r c).natAbs ≤ 20 := fun r c hr hc => by rw [colL_at hr hc]; exact colE_abs (hp.m r c)
  have hda := det200 hn (colL_rows (m := p.1) s hn fun r c _ _ => hp.m r c)
  have h := ((Loc.start H0).lent r1).lent r2
  refine f42.enter ?_
  unfold f42.w
  refine Wl.box (cs := [u1, u2]) h fun H b h => Wl.new h fun H b2 h => Wi.fieldAddr (Wl.get (b := b) (o := 1) h rfl (Wl.len (v := u2) (xs := p.2) h (Wi.fieldAddr0 (Wl.get (b := b) h rfl (Wi.callQ (fn78 (h.rd (cs := [u1]) (r := RSS) (x := p.1)) hsq hn hp.m (by omega) fun H v8 g => ⟨g.le, ?_⟩))))))
  have h := (h.addG g).asData (i := 0) rfl
  have h : Ab.Loc H0 [.data RG [v8] (colL n p.1 s), .box b2 [.int .i64 0, .slice none 0 0, .slice none 0 0], .box b [u1, u2], .lent RS [u2] p.2, .lent RSS [u1] p.1] H := h
  refine Wi.fieldAddr (Wl.get (b := b) (o := 1) h rfl (Wi.call (fn77 (h.rd (cs := [v8])) (h.rd (cs := [u2])) hcs hn hql hcb hp.q fun H v12 f => ?_)))
  have h := h.add f
  have hvb := solve_leib s hn hp.m hp.q
  have hvl := solveL_len n (colL n p.1 s) p.2
  generalize solveL n (colL n p.1 s) p.2 = side at *
  rw [hql]
  simp only [gw]
  refine Wi.eqlC (fun g => absurd g hD) fun _ => Wi.fls ?_
  have go : ∀ sg : Int, sg = 1 ∨ sg = -1 → f42.j1 Q (.int .i64 (det n (mAt (colL n p.1 s)))) (.int .i64 (n : Nat)) v12 (.int .i64 (s : Nat)) (pt b 0) v8 (pt b2 0) (.int .i64 sg) H := fun sg hsg => by
    unfold f42.j1
    have msg : ∀ x : Int, x.natAbs ≤ 1000000000000 → I64 (sg * x) := fun x hx => by
      rcases hsg with rfl | rfl <;> (unfold I64; omega)
    obtain ⟨dd, hdd⟩ : ∃ dd, dd = sg * det n (mAt (colL n p.1 s)) := ⟨_, rfl⟩
    refine Wi.mul (msg _ (by omega)) ?_
    rw [← hdd]
    refine Wl.lit0 (ty := 29) RS rfl h fun H v19 h => Wl.lit0 (ty := 2) Rd.int rfl h fun H v20 h => ?_
    have k1 := (h.rd (cs := [v19]) (r := RSS) (x := ([] : List (List Int)))).one
    have k2 := (h.rd (cs := [v20]) (r := RS) (x := ([] : List Int))).one
    have c1 := (h.rd (cs := [v19]) (r := RSS) (x := ([] : List (List Int)))).cell1
    have c2 := (h.rd (cs := [v20]) (r := RS) (x := ([] : List Int))).cell1
    have cd : cellsA (.int .i64 dd) = some [.int .i64 dd] := rfl
    refine Wi.build (cells := [.int .i64 dd, v19, v20]) (by simp [fillA, k1, k2, cd]) (Wl.new h fun H b22 h => Wl.putA (b := b22) (i := 0) h rfl rfl (by rw [List.all_cons, List.all_cons, List.all_cons, List.all_nil, c1, c2]; rfl) fun H h => ?_)
    have h : Ab.Loc H0 [.box b22 [.int .i64 dd, v19, v20], .grow Rd.int 2 v20 [], .grow RS 29 v19 [], .data RS [v12] side, .data RG [v8] (colL n p.1 s), .box b2 [.int .i64 0, .slice none 0 0, .slice none 0 0], .box b [u1, u2], .lent RS [u2] p.2, .lent RSS [u1] p.1] H := h
    -- rows of zeros, and the side
    refine W.for_rule n (fun i st H => ∃ v19 v20 sd, st = (.int .i64 (i : Nat), ()) ∧ sd.length = i ∧ Ab.Loc H0 [.box b22 [.int .i64 dd, v19, v20], .grow Rd.int 2 v20 sd, .grow RS 29 v19 (List.replicate i (List.replicate n 0)), .data RS [v12] side, .data RG [v8] (colL n p.1 s), .box b2 [.int .i64 0, .slice none 0 0, .slice none 0 0], .box b [u1, u2], .lent RS [u2] p.2, .lent RSS [u1] p.1] H) ⟨v19, v20, [], rfl, rfl, h⟩ ?_
    rintro i st H J hi ⟨v19, v20, sd, rfl, hsd, h⟩ hJ
    unfold f42.l1
    refine Wi.lssC (fun hlt => Wi.tru ?_) fun hge => Wi.fls ?_
    · have hin : i < n := by omega
      have his : i < side.length := by omega
      refine Wi.fieldAddr (Wl.get (b := b22) (o := 1) h rfl (Wl.make (r := Rd.int) (z := 0) (m := n) (fun _ => ⟨rfl, rfl, by unfold I64; omega⟩) h (by omega) (by decide) fun H v26 h => ?_))
      have h := h.asData (i := 0) rfl
      have h : Ab.Loc H0 [.data RS [v26] (List.replicate n 0), .box b22 [.int .i64 dd, v19, v20], .grow Rd.int 2 v20 sd, .grow RS 29 v19 (List.replicate i (List.replicate n 0)), .data RS [v12] side, .data RG [v8] (colL n p.1 s), .box b2 [.int .i64 0, .slice none 0 0, .slice none 0 0], .box b [u1, u2], .lent RS [u2] p.2, .lent RSS [u1] p.1] H := h
      have hcu := (h.rd (cs := [v26]) (r := RS) (x := List.replicate n 0)).one
      refine Wl.pushO (r := RS) (u := v26) (x := List.replicate n 0) (i := 3) (j := 0) (L2 := fun v' => .data RS [v26] (List.replicate n 0) :: .box b22 [.int .i64 dd, v19, v20] :: .grow Rd.int 2 v20 sd :: .grow RS 29 v' (List.replicate i (List.replicate n 0) ++ [List.replicate n 0]) :: [.data RS [v12] side, .data RG [v8] (colL n p.1 s), .box b2 [.int .i64 0, .slice none 0 0, .slice none 0 0], .box b [u1, u2], .lent RS [u2] p.2, .lent RSS [u1] p.1]) (L3 := fun v' => .emp :: .box b22 [.int .i64 dd, v19, v20] :: .grow Rd.int 2 v20 sd :: .grow RS 29 v' (List.replicate i (List.replicate n 0) ++ [List.replicate n 0]) :: [.data RS [v12] side, .data RG [v8] (colL n p.1 s), .box b2 [.int .i64 0, .slice none 0 0, .slice none 0 0], .box b [u1, u2], .lent RS [u2] p.2, .lent RSS [u1] p.1]) rfl h (by decide) hcu (by simp; omega) fun H v19' h => ?_
      rw [← List.replicate_succ'] at h
      have h : Ab.Loc H0 [.box b22 [.int .i64 dd, v19, v20], .grow Rd.int 2 v20 sd, .grow RS 29 v19' (List.replicate (i + 1) (List.replicate n 0)), .data RS [v12] side, .data RG [v8] (colL n p.1 s), .box b2 [.int .i64 0, .slice none 0 0, .slice none 0 0], .box b [u1, u2], .lent RS [u2] p.2, .lent RSS [u1] p.1] H := h.tl
      have c1 := (h.rd (cs := [v19']) (r := RSS) (x := List.replicate (i + 1) (List.replicate n 0))).cell1
      refine Wi.fieldAddr (Wl.put (b := b22) (o := 1) (i := 0) h c1 (by simp) fun H h => Wi.fieldAddr (Wl.get (b := b22) (o := 2) h rfl ?_))
      have h : Ab.Loc H0 [.box b22 [.int .i64 dd, v19', v20], .grow Rd.int 2 v20 sd, .grow RS 29 v19' (List.replicate (i + 1) (List.replicate n 0)), .data RS [v12] side, .data RG [v8] (colL n p.1 s), .box b2 [.int .i64 0, .slice none 0 0, .slice none 0 0], .box b [u1, u2], .lent RS [u2] p.2, .lent RSS [u1] p.1] H := h
      have hb := hvb _ (List.getElem_mem his)
      refine Wl.atIntH (h.rd (cs := [v12]) (r := RS) (x := side)) his fun _ => Wi.mul (msg _ (by omega)) ?_
      refine Wl.pushP (r := Rd.int) (x := sg * side[i]) (i := 1) rfl rfl rfl (fun _ => ⟨rfl, rfl, msg _ (by omega)⟩) h (by omega) fun H v20' h => ?_
      have h : Ab.Loc H0 [.box b22 [.int .i64 dd, v19', v20], .grow Rd.int 2 v20' (sd ++ [sg * side[i]]), .grow RS 29 v19' (List.replicate (i + 1) (List.replicate n 0)), .data RS [v12] side, .data RG [v8] (colL n p.1 s), .box b2 [.int .i64 0, .slice none 0 0, .slice none 0 0], .box b [u1, u2], .lent RS [u2] p.2, .lent RSS [u1] p.1] H := h
      have c2 := (h.rd (cs := [v20']) (r := RS) (x := sd ++ [sg * side[i]])).cell1
      refine Wi.fieldAddr (Wl.put (b := b22) (o := 2) (i := 0) h c2 (by simp) fun H h => Wi.add (by unfold I64; omega) (hJ _ _ hin ⟨v19', v20', sd ++ [sg * side[i]], rfl, by simp; omega, h⟩))
    have hin : i = n := by omega
    subst hin
    have h := (h.asData (i := 1) rfl).asData (i := 2) rfl
    have h : Ab.Loc H0 [.box b22 [.int .i64 dd, v19, v20], .data RS [v20] sd, .data RSS [v19] (List.replicate i (List.replicate i 0)), .data RS [v12] side, .data RG [v8] (colL i p.1 s), .box b2 [.int .i64 0, .slice none 0 0, .slice none 0 0], .box b [u1, u2], .lent RS [u2] p.2, .lent RSS [u1] p.1] H := h
    have c1 := (h.rd (cs := [v19]) (r := RSS) (x := List.replicate i (List.replicate i 0))).cell1
    have c2 := (h.rd (cs := [v20]) (r := RS) (x := sd)).cell1
    have kc : [.int .i64 dd, v19, v20].all isCell = true := by rw [List.all_cons, List.all_cons, List.all_cons, List.all_nil, c1, c2]; rfl
    obtain ⟨us, hus, h⟩ := h.heads (i := 2) rfl rfl
    -- the columns
    refine W.for_rule i (fun k st H => ∃ m, st = (.int .i64 (k : Nat), ()) ∧ m.length = i ∧ (∀ r ∈ m, r.length = i) ∧ Ab.Loc H0 [.box b22 [.int .i64 dd, v19, v20], .data RS [v20] sd, .rows RS v19 us m, .data RS [v12] side, .data RG [v8] (colL i p.1 s), .box b2 [.int .i64 0, .slice none 0 0, .slice none 0 0], .box b [u1, u2], .lent RS [u2] p.2, .lent RSS [u1] p.1] H) ⟨_, rfl, by simp, fun r hr => by rw [List.eq_of_mem_replicate hr]; simp, h⟩ ?_
    rintro k st H J hk ⟨m, rfl, hml, hmr, h⟩ hJ
    unfold f42.l2
    refine Wi.lssC (fun hlt => Wi.tru ?_) fun hge => Wi.fls ?_
    · have hkn : k < i := by omega
      refine Wl.make (r := Rd.int) (z := 0) (m := i) (fun _ => ⟨rfl, rfl, by unfold I64; omega⟩) h (by omega) (by decide) fun H v40 h => ?_
      have abs20 : ∀ r c, (mAt p.1 r c).natAbs ≤ 20 := hp.m
      refine W.for_rule i (fun a st H => ∃ ol, st = (.int .i64 (a : Nat), ()) ∧ ol.length = i ∧ (∀ e ∈ ol, e.natAbs ≤ 20) ∧ Ab.Loc H0 [.grow Rd.int 2 v40 ol, .box b22 [.int .i64 dd, v19, v20], .data RS [v20] sd, .rows RS v19 us m, .data RS [v12] side, .data RG [v8] (colL i p.1 s), .box b2 [.int .i64 0, .slice none 0 0, .slice none 0 0], .box b [u1, u2], .lent RS [u2] p.2, .lent RSS [u1] p.1] H) ⟨_, rfl, by simp, fun e he => by rw [List.eq_of_mem_replicate he]; decide, h⟩ ?_
      rintro a st H J3 ha ⟨ol, rfl, hol, hob, h⟩ hJ3
      unfold f42.l3
      have solve : ∀ (ol : List Int) H, ol.length = i → (∀ e ∈ ol, e.natAbs ≤ 20) → Ab.Loc H0 [.grow Rd.int 2 v40 ol, .box b22 [.int .i64 dd, v19, v20], .data RS [v20] sd, .rows RS v19 us m, .data RS [v12] side, .data RG [v8] (colL i p.1 s), .box b2 [.int .i64 0, .slice none 0 0, .slice none 0 0], .box b [u1, u2], .lent RS [u2] p.2, .lent RSS [u1] p.1] H → f42.j3 Q v8 v40 (.int .i64 (i : Nat)) (pt b22 0) (.int .i64 sg) (.int .i64 (k : Nat)) J H := fun ol H hol hob h => by
        unfold f42.j3
        refine Wi.call (fn77 (h.rd (cs := [v8]) (r := RG) (x := colL i p.1 s)) (h.rd (cs := [v40]) (r := RS) (x := ol)) hcs hn hol hcb (fun e he => by have := hob e he; omega) fun H v60 f => ?_)
        have h := h.add f
        have hwb := solve_leib s hn hp.m (q := ol) fun e he => by have := hob e he; omega
        have hwl := solveL_len i (colL i p.1 s) ol
        generalize solveL i (colL i p.1 s) ol = own at *
        simp only [gw]
        refine W.for_rule i (fun y st H => ∃ m, st = (.int .i64 (y : Nat), ()) ∧ m.length = i ∧ (∀ r ∈ m, r.length = i) ∧ Ab.Loc H0 [.data RS [v60] own, .grow Rd.int 2 v40 ol, .box b22 [.int .i64 dd, v19, v20], .data RS [v20] sd, .rows RS v19 us m, .data RS [v12] side, .data RG [v8] (colL i p.1 s), .box b2 [.int .i64 0, .slice none 0 0, .slice none 0 0], .box b [u1, u2], .lent RS [u2] p.2, .lent RSS [u1] p.1] H) ⟨m, rfl, hml, hmr, h⟩ ?_
        rintro y st H J4 hy ⟨m, rfl, hml, hmr, h⟩ hJ4
        unfold f42.l4
        refine Wi.lssC (fun hlt2 => Wi.tru ?_) fun hge2 => Wi.fls ?_
        · have hyn : y < i := by omega
          have hym : y < m.length := by omega
          have hyl := hmr _ (List.getElem_mem hym)
          have hyc : y < own.length := by omega
          have hvy := hwb _ (List.getElem_mem hyc)
          refine Wi.fieldAddr (Wl.get (b := b22) (o := 1) h rfl (Wl.atRow rfl h (a := y) hym fun w' hw _ => Wl.atIntH (h.rd (cs := [v60]) (r := RS) (x := own)) hyc fun _ => Wi.mul (msg _ (by omega)) ?_))
          refine Wl.rowSet h (j := 4) rfl hw hym (i := k) (by omega) (msg _ (by omega)) fun H h => Wi.add (by unfold I64; omega) (hJ4 _ _ hyn ⟨m.set y (m[y].set k (sg * own[y])), rfl, by rw [List.length_set]; exact hml, fun r hr => ?_, h⟩)
          rcases List.mem_or_eq_of_mem_set hr with g | g
          · exact hmr r g
          · rw [g, List.length_set]; exact hyl
        · exact Wi.add (by unfold I64; omega) (hJ _ _ hkn ⟨m, rfl, hml, hmr, h.tl.tl⟩)
      refine Wi.lssC (fun hlt2 => Wi.tru ?_) fun hge2 => Wi.fls ?_
      · have han : a < i := by omega
        have hao : a < ol.length := by omega
        have nxt : ∀ (ol : List Int) H, ol.length = i → (∀ e ∈ ol, e.natAbs ≤ 20) → Ab.Loc H0 [.grow Rd.int 2 v40 ol, .box b22 [.int .i64 dd, v19, v20], .data RS [v20] sd, .rows RS v19 us m, .data RS [v12] side, .data RG [v8] (colL i p.1 s), .box b2 [.int .i64 0, .slice none 0 0, .slice none 0 0], .box b [u1, u2], .lent RS [u2] p.2, .lent RSS [u1] p.1] H → f42.j2 Q (.int .i64 (a : Nat)) J3 H := fun ol H hol hob h => by
          unfold f42.j2
          exact Wi.add (by unfold I64; omega) (hJ3 _ _ han ⟨ol, rfl, hol, hob, h⟩)
        refine Wi.convN (by omega) (Wi.shrN (by omega) (by omega) (Wi.and1 (Wi.eqlC (fun _ => Wi.tru ?_) fun _ => Wi.fls (nxt ol H hol hob h))))
        have hap : a < p.1.length := by omega
        have hakr : k < p.1[a].length := by rw [hsq.2 _ (List.getElem_mem hap)]; exact hkn
        have hb := abs20 a k
        rw [mAt_at hap hakr] at hb
        refine Wi.fieldAddr0 (Wl.get (b := b) h rfl (Wl.at1H rfl (h.rd (cs := [u1]) (r := RSS) (x := p.1)) hap fun w hw => Wl.atIntH hw hakr fun _ => ?_))
        refine Wl.setG (v := v40) (j := 0) h (i := a) hao (by unfold I64; omega) fun H h => nxt _ H (by rw [List.length_set]; exact hol) (fun e he => ?_) h
        rcases List.mem_or_eq_of_mem_set he with g | g
        · exact hob e g
        · rw [g]; exact hb
      · refine Wi.convN (by omega) (Wi.shrN (by omega) (by omega) (Wi.and1 (Wi.eqlC (fun _ => Wi.tru ?_) fun _ => Wi.fls (solve ol H hol hob h))))
        refine Wl.setG (v := v40) (j := 0) h (i := k) (by omega) (by unfold I64; omega) fun H h => solve _ H (by rw [List.length_set]; exact hol) (fun e he => ?_) h
        rcases List.mem_or_eq_of_mem_set he with g | g
        · exact hob e g
        · rw [g]; decide
    · refine Wl.getA (b := b22) h rfl (Wl.putA (b := b2) (i := 5) h rfl rfl kc fun H h => Wl.getA (b := b2) h rfl ?_)
      exact hQ _ _ _ _ h.le kc
  refine Wi.lssC (fun _ => Wi.tru (go (-1) (.inr rfl))) fun _ => Wi.fls (go 1 (.inl rfl))

theorem fnQ19 {H0 : Heap} {Q : Post} {cs : List Value} {p : Prob} {s : Nat} (hr : Has RProblem H0 cs p) (hp : isProb p = true) (hs : s < 2 ^ p.2.length) (hD : det p.2.length (mAt (colL p.2.length p.1 s)) ≠ 0) (hQ : ∀ H' d w1 w2, H0.Le H' → [d, w1, w2].all isCell = true → Q (.tuple #[.agg #[d, w1, w2], .int .i64 0]) H') : Runs Tryz.prog 19 #[.agg cs.toArray, .int .i64 (s : Nat)] H0 Q := by
  have hlen := hr.len
  have h := (Loc.start H0).lent hr
  refine f19.enter ?_
  unfold f19.w
  refine Wl.box h fun H b h => Wl.new h fun H b2 h => Wl.getA (b := b) h hlen (Wi.call (fnQ41 (h.rd (cs := cs)) hp hs fun H l => ?_))
  have h := h.to l
  refine Wi.neqC (fun g => absurd rfl g) fun _ => Wi.fls (Wl.getA (b := b) h hlen (Wi.call (fnQ42 (h.rd (cs := cs)) (PB.of hp) hs hD fun H d w1 w2 l kc => ?_)))
  have h := h.to l
  simp only [gw]
  refine Wl.new h fun H b12 h => Wl.putA (b := b12) (i := 0) h rfl rfl kc fun H h => ?_
  refine Wl.getA (b := b12) h rfl (Wl.putA (b := b2) (i := 1) h rfl rfl kc fun H h => Wl.getA (b := b2) h rfl ?_)
  exact hQ _ _ _ _ h.le kc

end Go.Proofs.YtdmgomeogedjgaaGreat
