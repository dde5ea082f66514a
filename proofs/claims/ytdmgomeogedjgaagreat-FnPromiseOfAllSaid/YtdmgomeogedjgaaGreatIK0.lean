/- IsOfKind for the kind 0: all principal minors greater than 0. No condition. -/
import Derived.Test.YtdmgomeogedjgaaGreatGXX
import Derived.Test.YtdmgomeogedjgaaGreatGAB
import Derived.Test.YtdmgomeogedjgaaGreatGZP
namespace Go.Proofs.YtdmgomeogedjgaaGreat
open Go.Ab

/- loop.example/g01343/impl.IsOfKind -/
def f11.w (Q : Post) (m_0 : Value) (kind_1 : Value) (H : Heap) : Prop :=
  W.call Tryz.prog (.func (.func 30) #[] #[]) #[m_0] H fun v1 H =>
  W.un .not v1 H fun v2 H =>
  W.cond v2 H
  (fun H => Q (.tuple #[(.bool false), (.int .i64 1)]) H)
  (fun H => W.call Tryz.prog (.func (.func 31) #[] #[]) #[kind_1, (.int .i64 0), (.int .i64 11)] H fun v3 H =>
   W.un .not v3 H fun v4 H =>
   W.cond v4 H
   (fun H => Q (.tuple #[(.bool false), (.int .i64 2)]) H)
   (fun H => W.call Tryz.prog (.func (.func 32) #[] #[]) #[m_0, kind_1] H fun v5 H =>
    Q (.tuple #[v5, (.int .i64 0)]) H))
theorem f11.enter {Q : Post} {m_0 : Value} {kind_1 : Value} {H : Heap} (h : f11.w Q m_0 kind_1 H) : Runs Tryz.prog 11 #[m_0, kind_1] H Q :=
  fn_enter (ann := []) (by kernel_rfl) Tryz.func11 rfl (by kernel_rfl) h (by kernel_rfl)

/- loop.example/g01343/impl.isOfKind -/
def f32.w (Q : Post) (m_0 : Value) (kind_1 : Value) (H : Heap) : Prop :=
  W.box m_0 28 H fun v1 H =>
  W.bin .eql kind_1 (.int .i64 0) H fun v2 H =>
  W.cond v2 H
  (fun H => W.get v1 H fun v3 H =>
   W.call Tryz.prog (.func (.func 63) #[] #[]) #[v3, (.int .i64 1)] H fun v4 H =>
   Q v4 H)
  (fun H => W.bin .eql kind_1 (.int .i64 1) H fun v5 H =>
   W.cond v5 H
   (fun H => W.get v1 H fun v6 H =>
    W.call Tryz.prog (.func (.func 63) #[] #[]) #[v6, (.int .i64 0)] H fun v7 H =>
    Q v7 H)
   (fun H => W.bin .eql kind_1 (.int .i64 2) H fun v8 H =>
    W.cond v8 H
    (fun H => W.get v1 H fun v9 H =>
     W.call Tryz.prog (.func (.func 64) #[] #[]) #[v9] H fun v10 H =>
     Q v10 H)
    (fun H => W.bin .eql kind_1 (.int .i64 3) H fun v11 H =>
     W.cond v11 H
     (fun H => W.get v1 H fun v12 H =>
      W.call Tryz.prog (.func (.func 65) #[] #[]) #[v12] H fun v13 H =>
      Q v13 H)
     (fun H => W.bin .eql kind_1 (.int .i64 4) H fun v14 H =>
      W.cond v14 H
      (fun H => W.get v1 H fun v15 H =>
       W.call Tryz.prog (.func (.func 66) #[] #[]) #[v15] H fun v16 H =>
       W.call Tryz.prog (.func (.func 65) #[] #[]) #[v16] H fun v17 H =>
       Q v17 H)
      (fun H => W.bin .eql kind_1 (.int .i64 5) H fun v18 H =>
       W.cond v18 H
       (fun H => W.get v1 H fun v19 H =>
        W.call Tryz.prog (.func (.func 67) #[] #[]) #[v19] H fun v20 H =>
        W.call Tryz.prog (.func (.func 63) #[] #[]) #[v20, (.int .i64 1)] H fun v21 H =>
        Q v21 H)
       (fun H => W.bin .eql kind_1 (.int .i64 6) H fun v22 H =>
        W.cond v22 H
        (fun H => W.get v1 H fun v23 H =>
         W.call Tryz.prog (.func (.func 67) #[] #[]) #[v23] H fun v24 H =>
         W.call Tryz.prog (.func (.func 63) #[] #[]) #[v24, (.int .i64 0)] H fun v25 H =>
         Q v25 H)
        (fun H => W.bin .eql kind_1 (.int .i64 7) H fun v26 H =>
         W.cond v26 H
         (fun H => W.get v1 H fun v27 H =>
          W.call Tryz.prog (.func (.func 68) #[] #[]) #[v27, (.int .i64 0)] H fun v28 H =>
          Q v28 H)
         (fun H => W.bin .eql kind_1 (.int .i64 8) H fun v29 H =>
          W.cond v29 H
          (fun H => W.get v1 H fun v30 H =>
           W.call Tryz.prog (.func (.func 68) #[] #[]) #[v30, (.int .i64 1)] H fun v31 H =>
           Q v31 H)
          (fun H => W.bin .eql kind_1 (.int .i64 9) H fun v32 H =>
           W.cond v32 H
           (fun H => W.get v1 H fun v33 H =>
            W.call Tryz.prog (.func (.func 69) #[] #[]) #[v33, (.func (.func 70) #[] #[v1])] H fun v34 H =>
            Q v34 H)
           (fun H => W.bin .eql kind_1 (.int .i64 10) H fun v35 H =>
            W.cond v35 H
            (fun H => W.get v1 H fun v36 H =>
             W.call Tryz.prog (.func (.func 71) #[] #[]) #[v36] H fun v37 H =>
             Q v37 H)
            (fun H => W.get v1 H fun v38 H =>
             W.call Tryz.prog (.func (.func 69) #[] #[]) #[v38, (.func (.func 72) #[] #[v1])] H fun v39 H =>
             W.guarded v39 false (fun H k => W.get v1 H k) H fun v40 H =>
             W.guarded v39 false (fun H k => k (.func (.func 73) #[] #[v1]) H) H fun v41 H =>
             W.guarded v39 false (fun H k => W.call Tryz.prog (.func (.func 69) #[] #[]) #[v40, v41] H k) H fun v42 H =>
             W.pick v39 (.bool true) v42 H fun v43 H =>
             Q v43 H)))))))))))
theorem f32.enter {Q : Post} {m_0 : Value} {kind_1 : Value} {H : Heap} (h : f32.w Q m_0 kind_1 H) : Runs Tryz.prog 32 #[m_0, kind_1] H Q :=
  fn_enter (ann := []) (by kernel_rfl) Tryz.func32 rfl (by kernel_rfl) h (by kernel_rfl)


theorem isSq_mat {n : Nat} {m : List (List Int)} : isSq n m = true ↔ m.length = n ∧ ∀ r ∈ m, r.length = n := by
  simp [isSq, List.all_eq_true]

theorem mat_bound {m : List (List Int)} (h : isMat m = true) : Sq m.length m ∧ m.length ≤ 5 ∧ ∀ r c, (mAt m r c).natAbs ≤ 20 := by
  unfold isMat at h
  rw [Bool.and_eq_true, Bool.and_eq_true] at h
  have h1 := inR_iff.1 h.1.1
  have h2 := isSq_mat.1 h.1.2
  refine ⟨h2, by omega, fun r c => ?_⟩
  by_cases hr : r < m.length
  · by_cases hc : c < m[r].length
    · rw [mAt_at hr hc]
      have := List.all_eq_true.1 h.2 _ (List.getElem_mem hr)
      have := inR_iff.1 (List.all_eq_true.1 this _ (List.getElem_mem hc))
      omega
    · have : mAt m r c = 0 := by
        unfold mAt
        simp [List.getElem?_eq_getElem hr, List.getElem?_eq_none (show m[r].length ≤ c by omega)]
      rw [this]; decide
  · have : mAt m r c = 0 := by
      unfold mAt
      simp [List.getElem?_eq_none (show m.length ≤ r by omega)]
    rw [this]; decide

/-- Whether all principal minors are greater than 0. -/
def pB (m : List (List Int)) : Bool := (minorsL m.length m).all fun x => decide (1 ≤ x)

theorem pB_iff {m : List (List Int)} : pB m = true ↔ IsP m.length m := by
  unfold pB minorsL IsP
  rw [List.all_eq_true]
  constructor
  · intro h s hs
    have := h _ (List.mem_map.2 ⟨s, by simpa using hs, rfl⟩)
    rw [decide_eq_true_iff] at this
    omega
  · intro h x hx
    obtain ⟨s, hs, rfl⟩ := List.mem_map.1 hx
    have := h s (by simpa using hs)
    rw [decide_eq_true_iff]
    omega

theorem fnP11 {H0 : Heap} {Q : Post} {v : Value} {m : List (List Int)} (hr : Has RSS H0 [v] m) (hm : isMat m = true) (hQ : ∀ H', H0.Le H' → Q (.tuple #[.bool (pB m), .int .i64 0]) H') : Runs Tryz.prog 11 #[v, .int .i64 0] H0 Q := by
  obtain ⟨h1, h2, h3⟩ := mat_bound hm
  have h := (Loc.start H0).lent hr
  obtain ⟨_, q⟩ := hr
  refine f11.enter (Wi.call (fn30 q fun H l => ?_))
  rw [hm]
  have h := h.to l
  simp only [gw]
  refine Wi.call (fn31 ?_)
  rw [show inR 0 11 0 = true by decide]
  simp only [gw]
  refine Wi.call (f32.enter (Wl.box1 h (h.rd (cs := [v]) (r := RSS)).cell1 fun H b h => Wi.eqlC (fun _ => Wi.tru ?_) fun g => absurd rfl g))
  refine Wl.get h rfl (Wi.call (fn63 (h.rd (cs := [v])) h1 h2 (fun r c => by have := h3 r c; omega) fun H l => ?_))
  exact hQ _ (h.to l).le


end Go.Proofs.YtdmgomeogedjgaaGreat
