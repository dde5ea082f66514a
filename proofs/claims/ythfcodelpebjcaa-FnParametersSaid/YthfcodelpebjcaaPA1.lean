/- The contracts of PointAt, the program's and the reference's. No condition. -/
import Derived.Test.YthfcodelpebjcaaV1
import Derived.Test.YthfcodelpebjcaaV2
import Derived.Test.YthfcodelpebjcaaV3
import Derived.Test.YthfcodelpebjcaaTF
namespace Go.Proofs.Ythfcodelpebjcaa
open Go.Ab

/- loop.example/g01343/impl.isDirection -/
def f48.w (Q : Post) (d_0 : Value) (n_1 : Value) (H : Heap) : Prop :=
  W.len d_0 H fun v1 H =>
  W.bin .eql v1 n_1 H fun v2 H =>
  W.guarded v2 true (fun H k => k d_0 H) H fun v3 H =>
  W.guarded v2 true (fun H k => W.call Try.prog (.func (.func 79) #[] #[]) #[v3, (.int .i64 100)] H k) H fun v4 H =>
  W.pick v2 v4 (.bool false) H fun v5 H =>
  W.guarded v5 true (fun H k => k d_0 H) H fun v6 H =>
  W.guarded v5 true (fun H k => W.call Try.prog (.func (.func 74) #[] #[]) #[v6, (.func (.func 80) #[] #[])] H k) H fun v7 H =>
  W.pick v5 v7 (.bool false) H fun v8 H =>
  Q v8 H
theorem f48.enter {Q : Post} {d_0 : Value} {n_1 : Value} {H : Heap} (h : f48.w Q d_0 n_1 H) : Runs Try.prog 48 #[d_0, n_1] H Q :=
  fn_enter (ann := []) (by kernel_rfl) Try.func48 rfl (by kernel_rfl) h (by kernel_rfl)

/- loop.example/g01343/impl.isDirection$1 -/
def f80.w (Q : Post) (m_0 : Value) (H : Heap) : Prop :=
  W.bin .neq m_0 (.int .i64 0) H fun v1 H =>
  Q v1 H
theorem f80.enter {Q : Post} {m_0 : Value} {H : Heap} (h : f80.w Q m_0 H) : Runs Try.prog 80 #[m_0] H Q :=
  fn_enter (ann := []) (by kernel_rfl) Try.func80 rfl (by kernel_rfl) h (by kernel_rfl)

/- loop.example/g01343/impl.isTime -/
def f56.w (Q : Post) (t_0 : Value) (H : Heap) : Prop :=
  W.box t_0 50 H fun v1 H =>
  W.getN 2 v1 H fun v2 H =>
  W.call Try.prog (.func (.func 83) #[] #[]) #[v2] H fun v3 H =>
  W.guarded v3 true (fun H k => W.fieldAddr 0 v1 H k) H fun v4 H =>
  W.guarded v3 true (fun H k => W.get v4 H k) H fun v5 H =>
  W.guarded v3 true (fun H k => W.call Try.prog (.func (.func 69) #[] #[]) #[v5, (.int .i64 0), (.int .i64 1000)] H k) H fun v6 H =>
  W.pick v3 v6 (.bool false) H fun v7 H =>
  W.guarded v7 true (fun H k => W.fieldAddr 1 v1 H k) H fun v8 H =>
  W.guarded v7 true (fun H k => W.get v8 H k) H fun v9 H =>
  W.guarded v7 true (fun H k => W.bin .leq v9 (.int .i64 1000) H k) H fun v10 H =>
  W.pick v7 v10 (.bool false) H fun v11 H =>
  Q v11 H
theorem f56.enter {Q : Post} {t_0 : Value} {H : Heap} (h : f56.w Q t_0 H) : Runs Try.prog 56 #[t_0] H Q :=
  fn_enter (ann := []) (by kernel_rfl) Try.func56 rfl (by kernel_rfl) h (by kernel_rfl)

/- loop.example/g01343/impl.PointAt -/
def f25.l1 (Q : Post) (v35 : Value) (v24 : Value) (v2 : Value) (v30 : Value) (v34 : Value) (v25 : Value) (I1 : St [65] → Heap → Prop) (x_65 : Value) (H : Heap) : Prop :=
  W.bin .lss x_65 v35 H fun v36 H =>
  W.cond v36 H
  (fun H => W.indexAddr 1 v24 x_65 H fun v37 H =>
   W.get v37 H fun v38 H =>
   W.fieldAddr 1 v2 H fun v39 H =>
   W.get v39 H fun v40 H =>
   W.bin .mul v38 v40 H fun v41 H =>
   W.indexAddr 1 v30 x_65 H fun v42 H =>
   W.get v42 H fun v43 H =>
   W.fieldAddr 0 v2 H fun v44 H =>
   W.get v44 H fun v45 H =>
   W.bin .mul v43 v45 H fun v46 H =>
   W.bin .add v41 v46 H fun v47 H =>
   W.indexAddr 1 v34 x_65 H fun v48 H =>
   W.put v48 v47 H fun _ H =>
   W.bin .add x_65 (.int .i64 1) H fun v49 H =>
   I1 (v49, ()) H)
  (fun H => W.fieldAddr 1 v2 H fun v50 H =>
   W.get v50 H fun v51 H =>
   W.bin .mul v25 v51 H fun v52 H =>
   W.call Try.prog (.func (.func 58) #[] #[]) #[v34, v52] H fun v53 H =>
   W.extract 0 v53 H fun v54 H =>
   W.extract 1 v53 H fun v55 H =>
   Q (.tuple #[v54, v55]) H)
def f25.w (Q : Post) (p_0 : Value) (s_1 : Value) (d_2 : Value) (t_3 : Value) (H : Heap) : Prop :=
  W.box p_0 27 H fun v1 H =>
  W.box t_3 50 H fun v2 H =>
  W.getN 2 v1 H fun v3 H =>
  W.call Try.prog (.func (.func 47) #[] #[]) #[v3] H fun v4 H =>
  W.un .not v4 H fun v5 H =>
  W.cond v5 H
  (fun H => Q (.tuple #[(.slice none 0 0), (.int .i64 1)]) H)
  (fun H => W.fieldAddr 1 v1 H fun v6 H =>
   W.get v6 H fun v7 H =>
   W.len v7 H fun v8 H =>
   W.call Try.prog (.func (.func 55) #[] #[]) #[s_1, v8] H fun v9 H =>
   W.un .not v9 H fun v10 H =>
   W.guarded v10 false (fun H k => k d_2 H) H fun v11 H =>
   W.guarded v10 false (fun H k => W.fieldAddr 1 v1 H k) H fun v12 H =>
   W.guarded v10 false (fun H k => W.get v12 H k) H fun v13 H =>
   W.guarded v10 false (fun H k => W.len v13 H k) H fun v14 H =>
   W.guarded v10 false (fun H k => W.call Try.prog (.func (.func 48) #[] #[]) #[v11, v14] H k) H fun v15 H =>
   W.guarded v10 false (fun H k => W.un .not v15 H k) H fun v16 H =>
   W.pick v10 (.bool true) v16 H fun v17 H =>
   W.guarded v17 false (fun H k => W.getN 2 v2 H k) H fun v18 H =>
   W.guarded v17 false (fun H k => W.call Try.prog (.func (.func 56) #[] #[]) #[v18] H k) H fun v19 H =>
   W.guarded v17 false (fun H k => W.un .not v19 H k) H fun v20 H =>
   W.pick v17 (.bool true) v20 H fun v21 H =>
   W.cond v21 H
   (fun H => Q (.tuple #[(.slice none 0 0), (.int .i64 2)]) H)
   (fun H => W.getN 2 v1 H fun v22 H =>
    W.call Try.prog (.func (.func 37) #[] #[]) #[v22, s_1] H fun v23 H =>
    W.extract 0 v23 H fun v24 H =>
    W.extract 1 v23 H fun v25 H =>
    W.extract 2 v23 H fun v26 H =>
    W.un .not v26 H fun v27 H =>
    W.cond v27 H
    (fun H => Q (.tuple #[(.slice none 0 0), (.int .i64 5)]) H)
    (fun H => W.getN 2 v1 H fun v28 H =>
     W.call Try.prog (.func (.func 57) #[] #[]) #[v28, s_1, d_2] H fun v29 H =>
     W.extract 0 v29 H fun v30 H =>
     W.extract 1 v29 H fun v31 H =>
     W.extract 2 v29 H fun v32 H =>
     W.len v24 H fun v33 H =>
     W.make [(.int .i64 0)] 2 v33 v33 H fun v34 H =>
     W.len v24 H fun v35 H =>
     W.loop (S := St [65]) (fun I1 s H => f25.l1 Q v35 v24 v2 v30 v34 v25 I1 s.1 H) ((.int .i64 0), ()) H)))
theorem f25.enter {Q : Post} {p_0 : Value} {s_1 : Value} {d_2 : Value} {t_3 : Value} {H : Heap} (h : f25.w Q p_0 s_1 d_2 t_3 H) : Runs Try.prog 25 #[p_0, s_1, d_2, t_3] H Q :=
  fn_enter (ann := [(11, [65])]) (by kernel_rfl) Try.func25 rfl (by kernel_rfl) h (by kernel_rfl)

/- loop.example/g01343/spec.l10Direction -/
def f84.l1 (Q : Post) (n_1 : Value) (d_0 : Value) (I1 : St [5, 6] → Heap → Prop) (some_5 : Value) (i_6 : Value) (H : Heap) : Prop :=
  W.bin .lss i_6 n_1 H fun v3 H =>
  W.cond v3 H
  (fun H => W.indexAddr 1 d_0 i_6 H fun v4 H =>
   W.get v4 H fun v5 H =>
   W.call Try.prog (.func (.func 59) #[] #[]) #[v5, (.int .i64 (-100)), (.int .i64 100)] H fun v6 H =>
   W.un .not v6 H fun v7 H =>
   W.cond v7 H
   (fun H => Q (.bool false) H)
   (fun H => W.guarded some_5 false (fun H k => k d_0 H) H fun v8 H =>
    W.guarded some_5 false (fun H k => k i_6 H) H fun v9 H =>
    W.guarded some_5 false (fun H k => W.indexAddr 1 v8 v9 H k) H fun v10 H =>
    W.guarded some_5 false (fun H k => W.get v10 H k) H fun v11 H =>
    W.guarded some_5 false (fun H k => W.bin .neq v11 (.int .i64 0) H k) H fun v12 H =>
    W.pick some_5 (.bool true) v12 H fun v13 H =>
    W.bin .add i_6 (.int .i64 1) H fun v14 H =>
    I1 (v13, v14, ()) H))
  (fun H => Q some_5 H)
def f84.w (Q : Post) (d_0 : Value) (n_1 : Value) (H : Heap) : Prop :=
  W.len d_0 H fun v1 H =>
  W.bin .neq v1 n_1 H fun v2 H =>
  W.cond v2 H
  (fun H => Q (.bool false) H)
  (fun H => W.loop (S := St [5, 6]) (fun I1 s H => f84.l1 Q n_1 d_0 I1 s.1 s.2.1 H) ((.bool false), (.int .i64 0), ()) H)
theorem f84.enter {Q : Post} {d_0 : Value} {n_1 : Value} {H : Heap} (h : f84.w Q d_0 n_1 H) : Runs Try.prog 84 #[d_0, n_1] H Q :=
  fn_enter (ann := [(5, [5, 6])]) (by kernel_rfl) Try.func84 rfl (by kernel_rfl) h (by kernel_rfl)

/- loop.example/g01343/spec.l10Given -/
def f50.w (Q : Post) (p_0 : Value) (d_1 : Value) (H : Heap) : Prop :=
  W.box p_0 27 H fun v1 H =>
  W.getN 2 v1 H fun v2 H =>
  W.call Try.prog (.func (.func 71) #[] #[]) #[v2] H fun v3 H =>
  W.un .not v3 H fun v4 H =>
  W.cond v4 H
  (fun H => Q (.int .i64 1) H)
  (fun H => W.fieldAddr 1 v1 H fun v5 H =>
   W.get v5 H fun v6 H =>
   W.len v6 H fun v7 H =>
   W.call Try.prog (.func (.func 84) #[] #[]) #[d_1, v7] H fun v8 H =>
   W.un .not v8 H fun v9 H =>
   W.cond v9 H
   (fun H => Q (.int .i64 2) H)
   (fun H => Q (.int .i64 0) H))
theorem f50.enter {Q : Post} {p_0 : Value} {d_1 : Value} {H : Heap} (h : f50.w Q p_0 d_1 H) : Runs Try.prog 50 #[p_0, d_1] H Q :=
  fn_enter (ann := []) (by kernel_rfl) Try.func50 rfl (by kernel_rfl) h (by kernel_rfl)

/- loop.example/g01343/spec.l10Time -/
def f60.w (Q : Post) (t_0 : Value) (H : Heap) : Prop :=
  W.box t_0 50 H fun v1 H =>
  W.fieldAddr 0 v1 H fun v2 H =>
  W.get v2 H fun v3 H =>
  W.callQ Try.prog (.func (.func 59) #[] #[]) #[v3, (.int .i64 0), (.int .i64 1000)] H fun v4 H =>
  W.guarded v4 true (fun H k => W.fieldAddr 1 v1 H k) H fun v5 H =>
  W.guarded v4 true (fun H k => W.get v5 H k) H fun v6 H =>
  W.guarded v4 true (fun H k => W.callQ Try.prog (.func (.func 59) #[] #[]) #[v6, (.int .i64 1), (.int .i64 1000)] H k) H fun v7 H =>
  W.pick v4 v7 (.bool false) H fun v8 H =>
  W.guarded v8 true (fun H k => W.fieldAddr 0 v1 H k) H fun v9 H =>
  W.guarded v8 true (fun H k => W.get v9 H k) H fun v10 H =>
  W.guarded v8 true (fun H k => W.fieldAddr 1 v1 H k) H fun v11 H =>
  W.guarded v8 true (fun H k => W.get v11 H k) H fun v12 H =>
  W.guarded v8 true (fun H k => W.callQ Try.prog (.func (.func 63) #[] #[]) #[v10, v12] H k) H fun v13 H =>
  W.guarded v8 true (fun H k => W.getN 2 v1 H k) H fun v14 H =>
  W.guarded v8 true (fun H k => W.eqPair .eql v13 v14 H k) H fun v15 H =>
  W.pick v8 v15 (.bool false) H fun v16 H =>
  Q v16 H
theorem f60.enter {Q : Post} {t_0 : Value} {H : Heap} (h : f60.w Q t_0 H) : Runs Try.prog 60 #[t_0] H Q :=
  fn_enter (ann := []) (by kernel_rfl) Try.func60 rfl (by kernel_rfl) h (by kernel_rfl)

/- loop.example/g01343/spec.PointAt -/
def f26.l1 (Q : Post) (v28 : Value) (v2 : Value) (v31 : Value) (v29 : Value) (I1 : St [16, 17] → Heap → Prop) (out_16 : Value) (i_17 : Value) (H : Heap) : Prop :=
  W.len v28 H fun v35 H =>
  W.bin .lss i_17 v35 H fun v36 H =>
  W.cond v36 H
  (fun H => W.indexAddr 1 v28 i_17 H fun v37 H =>
   W.get v37 H fun v38 H =>
   W.fieldAddr 1 v2 H fun v39 H =>
   W.get v39 H fun v40 H =>
   W.bin .mul v38 v40 H fun v41 H =>
   W.indexAddr 1 v31 i_17 H fun v42 H =>
   W.get v42 H fun v43 H =>
   W.fieldAddr 0 v2 H fun v44 H =>
   W.get v44 H fun v45 H =>
   W.bin .mul v43 v45 H fun v46 H =>
   W.bin .add v41 v46 H fun v47 H =>
   W.fieldAddr 1 v2 H fun v48 H =>
   W.get v48 H fun v49 H =>
   W.bin .mul v29 v49 H fun v50 H =>
   W.callQ Try.prog (.func (.func 63) #[] #[]) #[v47, v50] H fun v51 H =>
   W.lit 1 [(.int .i64 0), (.int .i64 0)] 50 [(0, 2, v51)] H fun v52 H =>
   W.append 2 50 out_16 v52 H fun v53 H =>
   W.bin .add i_17 (.int .i64 1) H fun v54 H =>
   I1 (v53, v54, ()) H)
  (fun H => W.call Try.prog (.func (.func 52) #[] #[]) #[out_16] H fun v55 H =>
   W.extract 0 v55 H fun v56 H =>
   W.extract 1 v55 H fun v57 H =>
   Q (.tuple #[v56, v57]) H)
def f26.j1 (Q : Post) (v1 : Value) (s_1 : Value) (d_2 : Value) (v2 : Value) (code_10 : Value) (H : Heap) : Prop :=
  W.bin .neq code_10 (.int .i64 0) H fun v21 H =>
  W.cond v21 H
  (fun H => Q (.tuple #[(.slice none 0 0), code_10]) H)
  (fun H => W.fieldAddr 0 v1 H fun v22 H =>
   W.get v22 H fun v23 H =>
   W.call Try.prog (.func (.func 61) #[] #[]) #[v23, s_1] H fun v24 H =>
   W.fieldAddr 1 v1 H fun v25 H =>
   W.get v25 H fun v26 H =>
   W.call Try.prog (.func (.func 62) #[] #[]) #[v24, v26] H fun v27 H =>
   W.extract 0 v27 H fun v28 H =>
   W.extract 1 v27 H fun v29 H =>
   W.call Try.prog (.func (.func 62) #[] #[]) #[v24, d_2] H fun v30 H =>
   W.extract 0 v30 H fun v31 H =>
   W.extract 1 v30 H fun v32 H =>
   W.bin .eql v29 (.int .i64 0) H fun v33 H =>
   W.cond v33 H
   (fun H => Q (.tuple #[(.slice none 0 0), (.int .i64 5)]) H)
   (fun H => W.lit 0 [(.int .i64 0), (.int .i64 0)] 50 [] H fun v34 H =>
    W.loop (S := St [16, 17]) (fun I1 s H => f26.l1 Q v28 v2 v31 v29 I1 s.1 s.2.1 H) (v34, (.int .i64 0), ()) H))
def f26.w (Q : Post) (p_0 : Value) (s_1 : Value) (d_2 : Value) (t_3 : Value) (H : Heap) : Prop :=
  W.box p_0 27 H fun v1 H =>
  W.box t_3 50 H fun v2 H =>
  W.getN 2 v1 H fun v3 H =>
  W.call Try.prog (.func (.func 50) #[] #[]) #[v3, d_2] H fun v4 H =>
  W.bin .eql v4 (.int .i64 0) H fun v5 H =>
  W.guarded v5 true (fun H k => k s_1 H) H fun v6 H =>
  W.guarded v5 true (fun H k => W.fieldAddr 1 v1 H k) H fun v7 H =>
  W.guarded v5 true (fun H k => W.get v7 H k) H fun v8 H =>
  W.guarded v5 true (fun H k => W.len v8 H k) H fun v9 H =>
  W.guarded v5 true (fun H k => W.conv .u64 v9 H k) H fun v10 H =>
  W.guarded v5 true (fun H k => W.bin .shl (.int .i64 1) v10 H k) H fun v11 H =>
  W.guarded v5 true (fun H k => W.bin .sub v11 (.int .i64 1) H k) H fun v12 H =>
  W.guarded v5 true (fun H k => W.call Try.prog (.func (.func 59) #[] #[]) #[v6, (.int .i64 0), v12] H k) H fun v13 H =>
  W.guarded v5 true (fun H k => W.un .not v13 H k) H fun v14 H =>
  W.guarded v5 true (fun H k => k v14 H) H fun v15 H =>
  W.guarded v15 false (fun H k => W.getN 2 v2 H k) H fun v16 H =>
  W.guarded v15 false (fun H k => W.call Try.prog (.func (.func 60) #[] #[]) #[v16] H k) H fun v17 H =>
  W.guarded v15 false (fun H k => W.un .not v17 H k) H fun v18 H =>
  W.guarded v5 true (fun H k => W.pick v15 (.bool true) v18 H k) H fun v19 H =>
  W.pick v5 v19 (.bool false) H fun v20 H =>
  W.cond v20 H
  (fun H => f26.j1 Q v1 s_1 d_2 v2 (.int .i64 2) H)
  (fun H => f26.j1 Q v1 s_1 d_2 v2 v4 H)
theorem f26.enter {Q : Post} {p_0 : Value} {s_1 : Value} {d_2 : Value} {t_3 : Value} {H : Heap} (h : f26.w Q p_0 s_1 d_2 t_3 H) : Runs Try.prog 26 #[p_0, s_1, d_2, t_3] H Q :=
  fn_enter (ann := [(13, [16, 17])]) (by kernel_rfl) Try.func26 rfl (by kernel_rfl) h (by kernel_rfl)


def dirOk (n : Nat) (d : List Int) : Bool := (decide (d.length = n) && allUp 100 d) && d.any fun m => decide (m ≠ 0)
def timeOk (t : Frac) : Bool := isFr 1000000000 t && (inR 0 1000 t.1 && decide (t.2 ≤ 1000))

theorem dirOk_iff {n : Nat} {d : List Int} (h : dirOk n d = true) : d.length = n ∧ ∀ e ∈ d, e.natAbs ≤ 100 := by
  unfold dirOk at h
  rw [Bool.and_eq_true, Bool.and_eq_true] at h
  refine ⟨of_decide_eq_true h.1.1, fun e he => ?_⟩
  have := inR_iff.1 (List.all_eq_true.1 h.1.2 e he)
  omega

theorem timeOk_iff {t : Frac} (h : timeOk t = true) : (0 ≤ t.1 ∧ t.1 ≤ 1000) ∧ (1 ≤ t.2 ∧ t.2 ≤ 1000) ∧ Int.gcd t.1 t.2 = 1 := by
  unfold timeOk at h
  rw [Bool.and_eq_true, Bool.and_eq_true] at h
  have h1 := isFr_iff.1 h.1
  have h2 := inR_iff.1 h.2.1
  have h3 := of_decide_eq_true h.2.2
  exact ⟨h2, ⟨h1.1.1, h3⟩, h1.2.2⟩

theorem fn48 {H0 : Heap} {Q : Post} {v : Value} {d : List Int} {n : Nat} (hr : Has RS H0 [v] d) (hn : n ≤ 5) (hQ : ∀ H', H0.Le H' → Q (.bool (dirOk n d)) H') : Runs Try.prog 48 #[v, .int .i64 (n : Nat)] H0 Q := by
  have hs := hr.small
  unfold dirOk at hQ
  refine f48.enter (Wl.lenH hr (Wi.eqlC (fun he => ?_) fun hne => ?_))
  · simp only [gw]
    rw [decide_eq_true (show d.length = n by omega)] at hQ
    obtain ⟨_, q⟩ := hr
    refine Wi.call (fn79 (by unfold I64; omega) q fun H l => ?_)
    cases hu : allUp 100 d with
    | false =>
      simp only [gw]
      have := hQ _ l
      simp only [hu] at this
      exact this
    | true =>
      simp only [gw]
      refine Wi.call (contains74 _ _ _ _ _ (fun m => decide (m ≠ 0)) _ (Rd.le _ q l) ?_ fun H2 l2 => ?_)
      · intro H' bs u x K l hr hK
        obtain ⟨_, hu, _⟩ := hr
        simp only [List.cons.injEq, and_true] at hu
        subst hu
        refine Wi.callV (f80.enter (Wi.neqC (fun h => ?_) fun h => ?_))
        · have : K (.bool (decide (x ≠ 0))) H' := hK _ (.refl _)
          rw [decide_eq_true h] at this
          exact this
        · have : K (.bool (decide (x ≠ 0))) H' := hK _ (.refl _)
          rw [decide_eq_false (fun g => g h)] at this
          exact this
      · have := hQ _ (l.trans l2)
        simp only [hu, Bool.and_self, Bool.true_and] at this
        exact this
  · simp only [gw]
    have := hQ _ (.refl _)
    rw [decide_eq_false (show ¬ d.length = n by omega)] at this
    simp only [Bool.false_and] at this
    exact this

theorem fn56 {H0 : Heap} {Q : Post} {t : Frac} (hQ : ∀ H', H0.Le H' → Q (.bool (timeOk t)) H') : Runs Try.prog 56 #[.agg (frC t).toArray] H0 Q := by
  unfold timeOk at hQ
  refine f56.enter (Wl.box (Loc.start H0) fun H b h => Wl.getA h rfl (Wi.call (fn83 fun H l => ?_)))
  have h := h.to l
  cases hf : isFr 1000000000 t with
  | false =>
    simp only [gw]
    have := hQ _ h.le
    simp only [hf, Bool.false_and] at this
    exact this
  | true =>
    simp only [gw]
    refine Wi.fieldAddr0 (Wl.get h rfl (Wi.call (fn69 ?_)))
    cases hi : inR 0 1000 t.1 with
    | false =>
      simp only [gw]
      have := hQ _ h.le
      simp only [hf, hi, Bool.false_and, Bool.true_and] at this
      exact this
    | true =>
      simp only [gw]
      have := hQ _ h.le
      simp only [hf, hi, Bool.true_and] at this
      exact Wi.fieldAddr0 (Wl.get h rfl (Wi.leq this))

theorem fn84 {H0 : Heap} {Q : Post} {v : Value} {d : List Int} {n : Nat} (hr : Has RS H0 [v] d) (hn : n ≤ 5) (hQ : Q (.bool (dirOk n d)) H0) : Runs Try.prog 84 #[v, .int .i64 (n : Nat)] H0 Q := by
  have hs := hr.small
  unfold dirOk at hQ
  refine f84.enter (Wl.lenH hr (Wi.neqC (fun hne => Wi.tru ?_) fun he => Wi.fls ?_))
  · rw [decide_eq_false (show ¬ d.length = n by omega)] at hQ
    exact hQ
  have hdn : d.length = n := by omega
  rw [decide_eq_true hdn] at hQ
  refine W.for_rule n (fun i st H => H = H0 ∧ st = (.bool ((d.take i).any fun m => decide (m ≠ 0)), .int .i64 (i : Nat), ()) ∧ ∀ j (hj : j < d.length), j < i → inR (-100) 100 d[j] = true) ⟨rfl, rfl, fun j _ hj => by omega⟩ ?_
  rintro i st H J hi ⟨rfl, rfl, hok⟩ hJ
  refine Wi.lssC (fun hlt => Wi.tru ?_) fun hge => Wi.fls ?_
  · have hix : i < d.length := by omega
    refine Wl.atIntH hr hix fun _ => Wi.call (fn59 ?_)
    cases hin : inR (-100) 100 d[i] with
    | false =>
      simp only [gw]
      have : allUp 100 d = false := List.all_eq_false.2 ⟨_, List.getElem_mem hix, by rw [hin]; exact Bool.false_ne_true⟩
      rw [this] at hQ
      exact hQ
    | true =>
      simp only [gw]
      have et : (d.take (i + 1)).any (fun m => decide (m ≠ 0)) = ((d.take i).any (fun m => decide (m ≠ 0)) || decide (d[i] ≠ 0)) := by
        rw [List.take_succ_eq_append_getElem hix, List.any_append]
        simp
      have hok' : ∀ j (hj : j < d.length), j < i + 1 → inR (-100) 100 d[j] = true := fun j hj hji => by
        by_cases e : j = i
        · subst e; exact hin
        · exact hok j hj (by omega)
      have fin : ∀ c, c = (d.take (i + 1)).any (fun m => decide (m ≠ 0)) → W.bin .add (.int .i64 (i : Nat)) (.int .i64 1) H fun v14 H => J (.bool c, v14, ()) H := fun c hc => by
        subst hc
        exact Wi.add (by unfold I64; omega) (hJ _ _ (by omega) ⟨rfl, rfl, hok'⟩)
      generalize e1 : (d.take i).any (fun m => decide (m ≠ 0)) = c at *
      cases c with
      | true =>
        simp only [gw]
        exact fin _ (by rw [et]; rfl)
      | false =>
        simp only [gw]
        refine Wl.atIntH hr hix fun _ => Wi.neqC (fun h => ?_) fun h => ?_
        · exact fin _ (by rw [et, decide_eq_true h]; rfl)
        · exact fin _ (by rw [et, decide_eq_false (fun g => g h)]; rfl)
  · have : i = n := by omega
    subst this
    have : allUp 100 d = true := List.all_eq_true.2 fun x hx => by
      obtain ⟨j, hj, rfl⟩ := List.mem_iff_getElem.1 hx
      exact hok j hj (by omega)
    rw [this] at hQ
    rw [show d.take i = d from List.take_of_length_le (by omega)]
    exact hQ

def givC (p : Prob) (d : List Int) : Int := if isProb p = true then (if dirOk p.2.length d = true then 0 else 2) else 1

theorem fn50 {H0 : Heap} {Q : Post} {cs : List Value} {vd : Value} {p : Prob} {d : List Int} (hr : Has RProblem H0 cs p) (hd : Has RS H0 [vd] d) (hQ : ∀ H', H0.Le H' → Q (.int .i64 (givC p d)) H') : Runs Try.prog 50 #[.agg cs.toArray, vd] H0 Q := by
  obtain ⟨u1, u2, rfl, r1, r2⟩ := hasProb hr
  unfold givC at hQ
  have h := (((Loc.start H0).lent r2).lent hd).lent hr
  refine f50.enter (Wl.box h fun H b h => Wl.getA h rfl ?_)
  obtain ⟨_, q⟩ := h.rd (cs := [u1, u2])
  refine Wi.call (fn71 q fun H l => ?_)
  have h := h.to l
  cases hp : isProb p with
  | false =>
    simp only [gw]
    have := hQ _ h.le
    simp only [hp] at this
    exact this
  | true =>
    simp only [gw]
    refine Wi.fieldAddr (Wl.get h rfl (Wl.len h (Wi.call (fn84 (h.rd (cs := [vd])) (PB.of hp).n5 ?_))))
    cases hdk : dirOk p.2.length d with
    | false =>
      simp only [gw]
      have := hQ _ h.le
      simp only [hp, hdk] at this
      exact this
    | true =>
      simp only [gw]
      have := hQ _ h.le
      simp only [hp, hdk] at this
      exact this

theorem frac_same {n d : Int} (hd : 1 ≤ d) : ((frac n d).1 = n ∧ (frac n d).2 = d) ↔ Int.gcd n d = 1 := by
  rw [frac_pos' (by omega)]
  obtain ⟨e1, e2⟩ := tdiv_gcd (n := n) (d := d) (by omega)
  rw [e1, e2]
  have hg := Int.gcd_pos_of_ne_zero_right n (show d ≠ 0 by omega)
  constructor
  · rintro ⟨_, h2⟩
    have h2 : d / (Int.gcd n d : Int) = d := h2
    obtain ⟨k, hk⟩ := Int.gcd_dvd_right n d
    rw [show d / (Int.gcd n d : Int) = k by
      conv => lhs; lhs; rw [hk]
      rw [Int.mul_ediv_cancel_left _ (by omega)]] at h2
    subst h2
    have h3 : (Int.gcd n k : Int) * k = 1 * k := by rw [Int.one_mul]; exact hk.symm
    have := Int.eq_of_mul_eq_mul_right (show k ≠ 0 by omega) h3
    omega
  · intro h
    rw [h]
    simp

theorem fn60 {H0 : Heap} {Q : Post} {t : Frac} (ht : I64 t.1 ∧ I64 t.2) (hQ : ∀ H', H0.Le H' → Q (.bool (timeOk t)) H') : Runs Try.prog 60 #[.agg (frC t).toArray] H0 Q := by
  refine f60.enter ?_
  unfold f60.w
  refine Wl.box (Loc.start H0) fun H b h => Wi.fieldAddr0 (Wl.get h rfl (Wi.callQ (fn59 ⟨.refl _, ?_⟩)))
  have no : timeOk t = false → Q (.bool false) H := fun e => by
    have := hQ _ h.le
    rw [e] at this
    exact this
  have notb : ¬ timeOk t = true → timeOk t = false := fun e => by cases hb : timeOk t with | false => rfl | true => exact absurd hb e
  cases h1 : inR 0 1000 t.1 with
  | false =>
    simp only [gw]
    exact no (notb fun e => by rw [inR_iff.2 (timeOk_iff e).1] at h1; cases h1)
  | true =>
    simp only [gw]
    refine Wi.fieldAddr (Wl.get h rfl (Wi.callQ (fn59 ⟨.refl _, ?_⟩)))
    cases h2 : inR 1 1000 t.2 with
    | false =>
      simp only [gw]
      exact no (notb fun e => by rw [inR_iff.2 (timeOk_iff e).2.1] at h2; cases h2)
    | true =>
      simp only [gw]
      have g1 := inR_iff.1 h1
      have g2 := inR_iff.1 h2
      refine Wi.fieldAddr0 (Wl.get h rfl (Wi.fieldAddr (Wl.get h rfl (Wi.callQ (fn63 (by unfold B64; omega) (by unfold B64; omega) (by omega) fun H' l => ⟨l, ?_⟩)))))
      have h := h.to l
      have hf := frac_i64 (x := t.1) (d := t.2) (by unfold B64; omega) (by unfold B64; omega) (by omega)
      refine Wl.getA h rfl (Wi.eqPair hf.1 hf.2 ht.1 ht.2 ?_)
      have e : (decide ((frac t.1 t.2).1 = t.1) && decide ((frac t.1 t.2).2 = t.2)) = timeOk t := by
        rw [Bool.eq_iff_iff, Bool.and_eq_true, decide_eq_true_iff, decide_eq_true_iff, frac_same g2.1]
        constructor
        · intro hg
          unfold timeOk
          rw [isFr_iff.2 ⟨⟨g2.1, by omega⟩, ⟨by omega, by omega⟩, hg⟩, h1, decide_eq_true g2.2]
          rfl
        · exact fun e => (timeOk_iff e).2.2
      rw [e]
      exact hQ _ h.le

/-- The numbers of the point for the right side at a parameter. -/
def ptN (n : Nat) (p : Prob) (s : Nat) (d : List Int) (t : Frac) (i : Nat) : Int := (solveL n (colL n p.1 s) p.2).getD i 0 * t.2 + (solveL n (colL n p.1 s) d).getD i 0 * t.1
def ptF (n : Nat) (p : Prob) (s : Nat) (d : List Int) (t : Frac) : List Frac := (List.range n).map fun i => frac (ptN n p s d t i) (det n (mAt (colL n p.1 s)) * t.2)

def paRes (p : Prob) (s : Int) (d : List Int) (t : Frac) : List Frac × Int :=
  if isProb p = true then (if setOk p.2.length s = true ∧ dirOk p.2.length d = true ∧ timeOk t = true then (if det p.2.length (mAt (colL p.2.length p.1 s.toNat)) = 0 then ([], 5) else tolF (ptF p.2.length p s.toNat d t)) else ([], 2)) else ([], 1)

theorem paRes_sz (p : Prob) (s : Int) (d : List Int) (t : Frac) : szFS (paRes p s d t).1 ≤ 1048576 := by
  rw [szFS_len]
  unfold paRes
  split
  · rename_i h
    have hn := (PB.of h).n5
    split
    · split
      · simp
      · unfold tolF
        split
        · simp [ptF]; omega
        · simp
    · simp
  · simp

theorem ptN_abs {n : Nat} {p : Prob} {s : Nat} {d : List Int} {t : Frac} (hp : PB n p) (hd : ∀ e ∈ d, e.natAbs ≤ 100) (ht : (0 ≤ t.1 ∧ t.1 ≤ 1000) ∧ (1 ≤ t.2 ∧ t.2 ≤ 1000)) (i : Nat) :
    ((solveL n (colL n p.1 s) p.2).getD i 0 * t.2).natAbs ≤ 1920000000 * 1000 ∧ ((solveL n (colL n p.1 s) d).getD i 0 * t.1).natAbs ≤ 1920000000 * 1000 := by
  have g : ∀ (l : List Int), (∀ e ∈ l, e.natAbs ≤ 1920000000) → (l.getD i 0).natAbs ≤ 1920000000 := fun l hl => by
    rw [List.getD_eq_getElem?_getD]
    cases e : l[i]? with
    | none => simp
    | some x => exact hl x (List.mem_of_getElem? e)
  exact ⟨mulA (g _ (solve_leib s hp.n5 hp.m hp.q)) (by omega), mulA (g _ (solve_leib s hp.n5 hp.m hd)) (by omega)⟩

theorem sgI_pos {D e : Int} (h : 1 ≤ e) (hD : D ≠ 0) : sgI (D * e) = sgI D ∧ (D * e).natAbs = D.natAbs * e.natAbs ∧ D * e ≠ 0 := by
  refine ⟨?_, Int.natAbs_mul _ _, Int.mul_ne_zero hD (by omega)⟩
  unfold sgI
  rcases Int.lt_trichotomy D 0 with g | g | g
  · have := Int.mul_neg_of_neg_of_pos g (show 0 < e by omega)
    rw [if_pos g, if_pos this]
  · exact absurd g hD
  · have := Int.mul_pos g (show 0 < e by omega)
    rw [if_neg (show ¬ D * e < 0 by omega), if_pos (show D * e > 0 from this), if_neg (show ¬ D < 0 by omega), if_pos (show D > 0 from g)]

theorem ptF_low {n : Nat} {p : Prob} {s : Nat} {d : List Int} {t : Frac} (hD : det n (mAt (colL n p.1 s)) * t.2 ≠ 0) : ∀ a ∈ ptF n p s d t, 1 ≤ a.2 ∧ Int.gcd a.1 a.2 = 1 := fun a ha => by
  obtain ⟨i, _, rfl⟩ := List.mem_map.1 ha
  have h1 := frac_pos (n := ptN n p s d t i) hD
  exact ⟨by omega, frac_gcd hD⟩

theorem fn25 {H0 : Heap} {Q : Post} {cs ct : List Value} {vd : Value} {p : Prob} {s : Int} {d : List Int} {t : Frac} (hr : Has RProblem H0 cs p) (_ : I64 s) (hd : Has RS H0 [vd] d) (ht : Has RFrac H0 ct t) (_ : wProblem p ≤ 1048576) (_ : d.length ≤ 1048576)
    (hQ : ∀ H' u, Fresh RFS H0 [u] (paRes p s d t).1 H' → Q (.tuple #[u, .int .i64 (paRes p s d t).2]) H') : Runs Try.prog 25 #[.agg cs.toArray, .int .i64 s, vd, .agg ct.toArray] H0 Q := by
  obtain ⟨rfl, ht1, ht2⟩ := hasFrac ht
  obtain ⟨u1, u2, rfl, r1, r2⟩ := hasProb hr
  have hz : ∀ H c, H0.Le H → paRes p s d t = ([], c) → Q (.tuple #[.slice none 0 0, .int .i64 c]) H := fun H c l e => by
    have := hQ H (.slice none 0 0) (by rw [e]; exact fresh_nil l)
    rw [e] at this
    exact this
  have h := (((Loc.start H0).lent r2).lent hd).lent hr
  refine f25.enter (Wl.box h fun H b h => Wl.box h fun H b2 h => Wl.getA h rfl ?_)
  obtain ⟨_, q⟩ := h.rd (cs := [u1, u2])
  refine Wi.call (fn47 q fun H l => ?_)
  have h := h.to l
  cases hp : isProb p with
  | false =>
    simp only [gw]
    exact hz _ _ h.le (by unfold paRes; rw [hp]; rfl)
  | true =>
  have hpb := PB.of hp
  have hn := hpb.n5
  have h32 := pow5 hn
  simp only [gw]
  have two : ¬ (setOk p.2.length s = true ∧ dirOk p.2.length d = true ∧ timeOk t = true) → paRes p s d t = ([], 2) := fun g => by unfold paRes; rw [if_pos hp, if_neg g]
  refine Wi.fieldAddr (Wl.get h rfl (Wl.len h (Wi.call (fn55 hn ?_))))
  cases hs : setOk p.2.length s with
  | false =>
    simp only [gw]
    exact hz _ _ h.le (two fun g => by rw [hs] at g; cases g.1)
  | true =>
  simp only [gw]
  refine Wi.fieldAddr (Wl.get h rfl (Wl.len h (Wi.call (fn48 (h.rd (cs := [vd])) hn fun H l => ?_))))
  have h := h.to l
  cases hdk : dirOk p.2.length d with
  | false =>
    simp only [gw]
    exact hz _ _ h.le (two fun g => by rw [hdk] at g; cases g.2.1)
  | true =>
  simp only [gw]
  refine Wl.getA h rfl (Wi.call (fn56 fun H l => ?_))
  have h := h.to l
  cases htk : timeOk t with
  | false =>
    simp only [gw]
    exact hz _ _ h.le (two fun g => by rw [htk] at g; cases g.2.2)
  | true =>
  simp only [gw]
  obtain ⟨e1, e2⟩ := setOk_nat hs
  have hpa : paRes p s d t = if det p.2.length (mAt (colL p.2.length p.1 s.toNat)) = 0 then ([], 5) else tolF (ptF p.2.length p s.toNat d t) := by
    unfold paRes
    rw [if_pos hp, if_pos ⟨hs, hdk, htk⟩]
  obtain ⟨hdl, hdb⟩ := dirOk_iff hdk
  obtain ⟨t1, t2, t3⟩ := timeOk_iff htk
  generalize hsn : s.toNat = sn at *
  subst e1
  refine Wl.getA h rfl (Wi.call (fn37 (h.rd (cs := [u1, u2])) hpb (by omega) (fun hz0 H l => ?_) fun hD H w f => ?_))
  · simp only [gw]
    exact hz _ _ (h.to l).le (by rw [hpa, if_pos hz0])
  simp only [gw]
  have h := h.add f
  rw [if_neg hD] at hpa
  refine Wl.getA h rfl (Wi.call (fn57 (h.rd (cs := [u1, u2])) hpb (by omega) (h.rd (cs := [vd])) hdl hdb (fun g => absurd g hD) fun _ H w2 f => ?_))
  simp only [gw]
  have h := h.add f
  have hpl : (pointL p.2.length (colL p.2.length p.1 sn) p.2).length = p.2.length := by simp [pointL, solveL_len]
  have hpl2 : (pointL p.2.length (colL p.2.length p.1 sn) d).length = p.2.length := by simp [pointL, solveL_len]
  refine Wl.len h ?_
  rw [hpl]
  refine Wl.make (r := Rd.int) (z := 0) (fun _ => ⟨rfl, rfl, by unfold I64; omega⟩) h (by omega) (by decide) fun H u h => Wl.len h ?_
  rw [hpl]
  have h := h.asData (i := 0) rfl
  have e0 : List.replicate p.2.length (0 : Int) = (List.range p.2.length).map fun k => if k < 0 then sgI (det p.2.length (mAt (colL p.2.length p.1 sn))) * ptN p.2.length p sn d t k else 0 := by
    apply List.ext_getElem <;> simp
  rw [e0] at h
  refine W.for_rule p.2.length (fun x st H => st = (.int .i64 (x : Nat), ()) ∧ Ab.Loc H0 [.data RS [u] ((List.range p.2.length).map fun k => if k < x then sgI (det p.2.length (mAt (colL p.2.length p.1 sn))) * ptN p.2.length p sn d t k else 0), .data RS [w2] (pointL p.2.length (colL p.2.length p.1 sn) d), .data RS [w] (pointL p.2.length (colL p.2.length p.1 sn) p.2), .box b2 (frC t)] H) ⟨rfl, h.first 4⟩ ?_
  rintro x st H J hx ⟨rfl, h⟩ hJ
  have hDa := colL_leib sn hn hpb.m
  have hps := fun i => ptN_abs (s := sn) hpb hdb ⟨t1, t2⟩ i
  refine Wi.lssC (fun hlt => Wi.tru ?_) fun hge => Wi.fls ?_
  · have hxn : x < p.2.length := by omega
    obtain ⟨b1, b3⟩ := hps x
    have ga : (pointL p.2.length (colL p.2.length p.1 sn) p.2)[x]'(by omega) = sgI (det p.2.length (mAt (colL p.2.length p.1 sn))) * (solveL p.2.length (colL p.2.length p.1 sn) p.2).getD x 0 := by
      have := solveL_len p.2.length (colL p.2.length p.1 sn) p.2
      rw [atD (by omega)]
      simp [pointL]
    have gb : (pointL p.2.length (colL p.2.length p.1 sn) d)[x]'(by omega) = sgI (det p.2.length (mAt (colL p.2.length p.1 sn))) * (solveL p.2.length (colL p.2.length p.1 sn) d).getD x 0 := by
      have := solveL_len p.2.length (colL p.2.length p.1 sn) d
      rw [atD (by omega)]
      simp [pointL]
    have c1 := mulA (sgI_abs (det p.2.length (mAt (colL p.2.length p.1 sn)))) b1
    have c2 := mulA (sgI_abs (det p.2.length (mAt (colL p.2.length p.1 sn)))) b3
    have c3 := addA c1 c2
    have ev : sgI (det p.2.length (mAt (colL p.2.length p.1 sn))) * ptN p.2.length p sn d t x = sgI (det p.2.length (mAt (colL p.2.length p.1 sn))) * ((solveL p.2.length (colL p.2.length p.1 sn) p.2).getD x 0 * t.2) + sgI (det p.2.length (mAt (colL p.2.length p.1 sn))) * ((solveL p.2.length (colL p.2.length p.1 sn) d).getD x 0 * t.1) := by
      unfold ptN
      rw [Int.mul_add]
    refine Wl.atInt h (i := x) (by omega) fun _ => ?_
    rw [ga]
    refine Wi.fieldAddr (Wl.get h rfl (Wi.mul (by rw [Int.mul_assoc]; exact i64A c1 (by decide)) (Wl.atInt h (i := x) (by omega) fun _ => ?_)))
    rw [gb]
    refine Wi.fieldAddr0 (Wl.get h rfl (Wi.mul (by rw [Int.mul_assoc]; exact i64A c2 (by decide)) (Wi.add (by rw [Int.mul_assoc, Int.mul_assoc]; exact i64A c3 (by decide)) ?_)))
    rw [Int.mul_assoc, Int.mul_assoc, ← ev]
    rw [← ev] at c3
    refine Wl.setInt h (by simpa using hxn) (i64A c3 (by decide)) fun H h => Wi.add (by unfold I64; omega) (hJ _ _ hxn ⟨rfl, ?_⟩)
    rw [range_set (g := fun k => if k < x + 1 then sgI (det p.2.length (mAt (colL p.2.length p.1 sn))) * ptN p.2.length p sn d t k else 0) (by simp) (fun k _ hk => by
      by_cases g : k < x
      · rw [if_pos g, if_pos (by omega)]
      · rw [if_neg g, if_neg (by omega)])] at h
    exact h
  · have hxe : x = p.2.length := by omega
    rw [hxe] at h
    have e : ((List.range p.2.length).map fun k => if k < p.2.length then sgI (det p.2.length (mAt (colL p.2.length p.1 sn))) * ptN p.2.length p sn d t k else 0) = (List.range p.2.length).map fun k => sgI (det p.2.length (mAt (colL p.2.length p.1 sn))) * ptN p.2.length p sn d t k := List.map_congr_left fun k hk => by rw [if_pos (by simpa using hk)]
    rw [e] at h
    obtain ⟨s1, s2, s3⟩ := sgI_pos t2.1 hD
    have hmul : (((det p.2.length (mAt (colL p.2.length p.1 sn))).natAbs : Nat) : Int) * t.2 = ((det p.2.length (mAt (colL p.2.length p.1 sn)) * t.2).natAbs : Nat) := by
      rw [s2]
      have : ((t.2.natAbs : Nat) : Int) = t.2 := by omega
      rw [Int.natCast_mul, this]
    have hbd : (det p.2.length (mAt (colL p.2.length p.1 sn)) * t.2).natAbs ≤ 384000000 * 1000 := mulA hDa (by omega)
    refine Wi.fieldAddr (Wl.get h rfl (Wi.mul (by rw [hmul]; exact i64N (q := (det p.2.length (mAt (colL p.2.length p.1 sn)) * t.2).natAbs) hbd (by decide)) ?_))
    rw [hmul]
    refine Wi.call (fn58 (h.rd (cs := [u])) (fun y hy => ?_) (by unfold B64; omega) (by omega) (by simp; omega) fun H z f => ?_)
    · obtain ⟨i, _, rfl⟩ := List.mem_map.1 hy
      obtain ⟨b1, b3⟩ := hps i
      have c := mulA (sgI_abs (det p.2.length (mAt (colL p.2.length p.1 sn)))) (addA b1 b3)
      unfold B64
      unfold ptN
      omega
    · have h := h.add f
      simp only [gw]
      have e : frAll ((List.range p.2.length).map fun k => sgI (det p.2.length (mAt (colL p.2.length p.1 sn))) * ptN p.2.length p sn d t k) ((det p.2.length (mAt (colL p.2.length p.1 sn)) * t.2).natAbs : Nat) = tolF (ptF p.2.length p sn d t) := frAll_tol (by
        unfold ptF
        rw [List.map_map]
        refine List.map_congr_left fun k _ => ?_
        simp only [Function.comp]
        rw [← s1]
        exact frac_scale s3)
      rw [e] at h ⊢
      have := hQ H z (by rw [hpa]; exact h.ret (i := 0) rfl)
      rw [hpa] at this
      exact this

theorem fn26 {H0 : Heap} {Q : Post} {cs ct : List Value} {vd : Value} {p : Prob} {s : Int} {d : List Int} {t : Frac} (hr : Has RProblem H0 cs p) (_ : I64 s) (hd : Has RS H0 [vd] d) (ht : Has RFrac H0 ct t) (_ : wProblem p ≤ 1048576) (_ : d.length ≤ 1048576)
    (hQ : ∀ H' u, Fresh RFS H0 [u] (paRes p s d t).1 H' → Q (.tuple #[u, .int .i64 (paRes p s d t).2]) H') : Runs Try.prog 26 #[.agg cs.toArray, .int .i64 s, vd, .agg ct.toArray] H0 Q := by
  obtain ⟨rfl, ht1, ht2⟩ := hasFrac ht
  obtain ⟨u1, u2, rfl, r1, r2⟩ := hasProb hr
  have hz : ∀ H c, H0.Le H → paRes p s d t = ([], c) → Q (.tuple #[.slice none 0 0, .int .i64 c]) H := fun H c l e => by
    have := hQ H (.slice none 0 0) (by rw [e]; exact fresh_nil l)
    rw [e] at this
    exact this
  have h := ((((Loc.start H0).lent r1).lent r2).lent hd).lent hr
  refine f26.enter (Wl.box h fun H b h => Wl.box h fun H b2 h => Wl.getA h rfl (Wi.call (fn50 (h.rd (cs := [u1, u2])) (h.rd (cs := [vd])) fun H l => ?_)))
  have h := h.to l
  have bad : ∀ c : Int, c ≠ 0 → paRes p s d t = ([], c) → f26.j1 Q (pt b 0) (.int .i64 s) vd (pt b2 0) (.int .i64 c) H := fun c hc e => by
    unfold f26.j1
    exact Wi.neqC (fun _ => Wi.tru (hz _ _ h.le e)) fun g => absurd g hc
  have two : ∀ hp : isProb p = true, ¬ (setOk p.2.length s = true ∧ dirOk p.2.length d = true ∧ timeOk t = true) → paRes p s d t = ([], 2) := fun hp g => by unfold paRes; rw [if_pos hp, if_neg g]
  unfold givC
  cases hp : isProb p with
  | false =>
    simp only [Bool.false_eq_true, if_false]
    refine Wi.eqlC (fun g => absurd g (by decide)) fun _ => ?_
    simp only [gw]
    exact bad 1 (by decide) (by unfold paRes; rw [hp]; rfl)
  | true =>
  simp only [if_true]
  have hpb := PB.of hp
  have hn := hpb.n5
  have h32 := pow5 hn
  cases hdk : dirOk p.2.length d with
  | false =>
    simp only [Bool.false_eq_true, if_false]
    refine Wi.eqlC (fun g => absurd g (by decide)) fun _ => ?_
    simp only [gw]
    exact bad 2 (by decide) (two hp fun g => by rw [hdk] at g; cases g.2.1)
  | true =>
  simp only [if_true]
  refine Wi.eqlC (fun _ => ?_) fun g => absurd rfl g
  simp only [gw]
  refine Wi.fieldAddr (Wl.get h rfl (Wl.len h (Wi.convN (by omega) (Wi.shl1 (by omega) (Wi.sub (i64_pow hn) (Wi.call (fn59 ?_)))))))
  have hse : inR 0 (((2 ^ p.2.length : Nat) : Int) - 1) s = setOk p.2.length s := rfl
  rw [hse]
  cases hs : setOk p.2.length s with
  | false =>
    simp only [gw]
    exact bad 2 (by decide) (two hp fun g => by rw [hs] at g; cases g.1)
  | true =>
  simp only [gw]
  refine Wl.getA h rfl (Wi.call (fn60 ⟨ht1, ht2⟩ fun H l => ?_))
  have h := h.to l
  cases htk : timeOk t with
  | false =>
    simp only [gw]
    unfold f26.j1
    exact Wi.neqC (fun _ => Wi.tru (hz _ _ h.le (two hp fun g => by rw [htk] at g; cases g.2.2))) fun g => absurd g (by decide)
  | true =>
  simp only [gw]
  unfold f26.j1
  refine Wi.neqC (fun g => absurd rfl g) fun _ => Wi.fls ?_
  obtain ⟨e1, e2⟩ := setOk_nat hs
  have hpa : paRes p s d t = if det p.2.length (mAt (colL p.2.length p.1 s.toNat)) = 0 then ([], 5) else tolF (ptF p.2.length p s.toNat d t) := by
    unfold paRes
    rw [if_pos hp, if_pos ⟨hs, hdk, htk⟩]
  obtain ⟨hdl, hdb⟩ := dirOk_iff hdk
  obtain ⟨t1, t2, t3⟩ := timeOk_iff htk
  generalize hsn : s.toNat = sn at *
  subst e1
  have hcs := tabL_sq p.2.length (colE p.1 sn)
  have hcb : ∀ r c, r < p.2.length → c < p.2.length → (mAt (colL p.2.length p.1 sn) r c).natAbs ≤ 20 := fun r c hr hc => by rw [colL_at hr hc]; exact colE_abs (hpb.m r c)
  refine Wi.fieldAddr0 (Wl.get h rfl (Wi.call (fn61 (h.rd (cs := [u1])) hpb.sq hn hpb.m (by omega) fun H v g => ?_)))
  have h := (h.addG g).asData (i := 0) rfl
  refine Wi.fieldAddr (Wl.get h rfl (Wi.call (fn62 (h.rd (cs := [v])) (h.rd (cs := [u2])) hcs hn rfl hcb hpb.q fun H a f => ?_)))
  have h := h.add f
  simp only [gw]
  refine Wi.call (fn62 (h.rd (cs := [v])) (h.rd (cs := [vd])) hcs hn hdl hcb hdb fun H a2 f => ?_)
  have h := h.add f
  simp only [gw]
  have hDa := colL_leib sn hn hpb.m
  refine Wi.eqlC (fun hz0 => Wi.tru (hz _ _ h.le (by rw [hpa, if_pos hz0]))) fun hD => Wi.fls (Wl.lit0 RFrac (ty := 50) rfl h fun H y h => ?_)
  rw [if_neg hD] at hpa
  have hl1 := solveL_len p.2.length (colL p.2.length p.1 sn) p.2
  have hl2 := solveL_len p.2.length (colL p.2.length p.1 sn) d
  obtain ⟨s1, s2, s3⟩ := sgI_pos t2.1 hD
  have hbd : (det p.2.length (mAt (colL p.2.length p.1 sn)) * t.2).natAbs ≤ 384000000 * 1000 := mulA hDa (by omega)
  have hps := fun i => ptN_abs (s := sn) hpb hdb ⟨t1, t2⟩ i
  refine W.for_rule p.2.length (fun x st H => ∃ y, st = (y, .int .i64 (x : Nat), ()) ∧ Ab.Loc H0 [.grow RFrac 50 y ((List.range x).map fun i => frac (ptN p.2.length p sn d t i) (det p.2.length (mAt (colL p.2.length p.1 sn)) * t.2)), .data RS [a2] (solveL p.2.length (colL p.2.length p.1 sn) d), .data RS [a] (solveL p.2.length (colL p.2.length p.1 sn) p.2), .data RG [v] (colL p.2.length p.1 sn), .box b2 (frC t)] H) ⟨_, rfl, h.first 5⟩ ?_
  rintro x st H J hx ⟨y, rfl, h⟩ hJ
  refine Wl.len h (Wi.lssC (fun hlt => Wi.tru ?_) fun hge => Wi.fls ?_)
  · have hxn : x < p.2.length := by omega
    obtain ⟨b1, b3⟩ := hps x
    have c3 := addA b1 b3
    have e1 : (solveL p.2.length (colL p.2.length p.1 sn) p.2)[x]'(by omega) = (solveL p.2.length (colL p.2.length p.1 sn) p.2).getD x 0 := (atD (by omega)).symm
    have e2 : (solveL p.2.length (colL p.2.length p.1 sn) d)[x]'(by omega) = (solveL p.2.length (colL p.2.length p.1 sn) d).getD x 0 := (atD (by omega)).symm
    refine Wl.atInt h (i := x) (by omega) fun _ => ?_
    rw [e1]
    refine Wi.fieldAddr (Wl.get h rfl (Wi.mul (i64A b1 (by decide)) (Wl.atInt h (i := x) (by omega) fun _ => ?_)))
    rw [e2]
    refine Wi.fieldAddr0 (Wl.get h rfl (Wi.mul (i64A b3 (by decide)) (Wi.add (i64A c3 (by decide)) (Wi.fieldAddr (Wl.get h rfl (Wi.mul (i64A hbd (by decide)) ?_))))))
    have hB1 : B64 (ptN p.2.length p sn d t x) := by unfold B64 ptN; omega
    have hB2 : B64 (det p.2.length (mAt (colL p.2.length p.1 sn)) * t.2) := by unfold B64; omega
    refine Wi.callQ (fn63 (n := ptN p.2.length p sn d t x) hB1 hB2 s3 fun H l => ⟨l, ?_⟩)
    have h := h.to l
    refine Wl.pushP (r := RFrac) (x := frac (ptN p.2.length p sn d t x) (det p.2.length (mAt (colL p.2.length p.1 sn)) * t.2)) rfl rfl rfl (frac_rel (frac_i64 hB1 hB2 s3)) h (by simp; omega) fun H y' h => Wi.add (by unfold I64; omega) (hJ _ _ hxn ⟨y', rfl, ?_⟩)
    rw [← range_push (f := fun i => frac (ptN p.2.length p sn d t i) (det p.2.length (mAt (colL p.2.length p.1 sn)) * t.2)) rfl]
    exact h
  · have hxe : x = p.2.length := by omega
    rw [hxe] at h
    have h : Ab.Loc H0 [.grow RFrac 50 y (ptF p.2.length p sn d t), .data RS [a2] (solveL p.2.length (colL p.2.length p.1 sn) d), .data RS [a] (solveL p.2.length (colL p.2.length p.1 sn) p.2), .data RG [v] (colL p.2.length p.1 sn), .box b2 (frC t)] H := h
    have h := h.asData (i := 0) rfl
    refine Wi.call (fn52 (h.rd (cs := [y])) (ptF_low s3) (fun ha => ?_) fun ha => ?_)
    · simp only [gw]
      have et : tolF (ptF p.2.length p sn d t) = (ptF p.2.length p sn d t, 0) := by unfold tolF; rw [if_pos ha]
      have := hQ H y (by rw [hpa, et]; exact h.ret (i := 0) rfl)
      rw [hpa, et] at this
      exact this
    · simp only [gw]
      exact hz _ _ h.le (by rw [hpa]; unfold tolF; rw [ha]; rfl)

end Go.Proofs.Ythfcodelpebjcaa
