/- The contracts of IsConvex, the program's and the reference's. No condition. -/
import Derived.Test.YtmhbbkidedjefaaGreatX1
import Derived.Test.YtmhbbkidedjefaaGreatX2
import Derived.Test.YtmhbbkidedjefaaGreatP1
import Derived.Test.YtmhbbkidedjefaaGreatP2
namespace Go.Proofs.YtmhbbkidedjefaaGreat
open Go.Ab

/- (loop.example/g01343/impl.Program).isConvex -/
def f26.w (Q : Post) (p_0 : Value) (H : Heap) : Prop :=
  W.box p_0 32 H fun v1 H =>
  W.fieldAddr 0 v1 H fun v2 H =>
  W.get v2 H fun v3 H =>
  W.call Tryz.prog (.func (.func 51) #[] #[]) #[v3, (.int .i64 6)] H fun v4 H =>
  Q v4 H
theorem f26.enter {Q : Post} {p_0 : Value} {H : Heap} (h : f26.w Q p_0 H) : Runs Tryz.prog 26 #[p_0] H Q :=
  fn_enter (ann := []) (by kernel_rfl) Tryz.func26 rfl (by kernel_rfl) h (by kernel_rfl)

/- loop.example/g01343/impl.isOfKind -/
def f51.w (Q : Post) (m_0 : Value) (kind_1 : Value) (H : Heap) : Prop :=
  W.box m_0 22 H fun v1 H =>
  W.bin .eql kind_1 (.int .i64 0) H fun v2 H =>
  W.cond v2 H
  (fun H => W.get v1 H fun v3 H =>
   W.call Tryz.prog (.func (.func 73) #[] #[]) #[v3, (.int .i64 1)] H fun v4 H =>
   Q v4 H)
  (fun H => W.bin .eql kind_1 (.int .i64 1) H fun v5 H =>
   W.cond v5 H
   (fun H => W.get v1 H fun v6 H =>
    W.call Tryz.prog (.func (.func 73) #[] #[]) #[v6, (.int .i64 0)] H fun v7 H =>
    Q v7 H)
   (fun H => W.bin .eql kind_1 (.int .i64 2) H fun v8 H =>
    W.cond v8 H
    (fun H => W.get v1 H fun v9 H =>
     W.call Tryz.prog (.func (.func 74) #[] #[]) #[v9] H fun v10 H =>
     Q v10 H)
    (fun H => W.bin .eql kind_1 (.int .i64 3) H fun v11 H =>
     W.cond v11 H
     (fun H => W.get v1 H fun v12 H =>
      W.call Tryz.prog (.func (.func 75) #[] #[]) #[v12] H fun v13 H =>
      Q v13 H)
     (fun H => W.bin .eql kind_1 (.int .i64 4) H fun v14 H =>
      W.cond v14 H
      (fun H => W.get v1 H fun v15 H =>
       W.call Tryz.prog (.func (.func 76) #[] #[]) #[v15] H fun v16 H =>
       W.call Tryz.prog (.func (.func 75) #[] #[]) #[v16] H fun v17 H =>
       Q v17 H)
      (fun H => W.bin .eql kind_1 (.int .i64 5) H fun v18 H =>
       W.cond v18 H
       (fun H => W.get v1 H fun v19 H =>
        W.call Tryz.prog (.func (.func 77) #[] #[]) #[v19] H fun v20 H =>
        W.call Tryz.prog (.func (.func 73) #[] #[]) #[v20, (.int .i64 1)] H fun v21 H =>
        Q v21 H)
       (fun H => W.bin .eql kind_1 (.int .i64 6) H fun v22 H =>
        W.cond v22 H
        (fun H => W.get v1 H fun v23 H =>
         W.call Tryz.prog (.func (.func 77) #[] #[]) #[v23] H fun v24 H =>
         W.call Tryz.prog (.func (.func 73) #[] #[]) #[v24, (.int .i64 0)] H fun v25 H =>
         Q v25 H)
        (fun H => W.bin .eql kind_1 (.int .i64 7) H fun v26 H =>
         W.cond v26 H
         (fun H => W.get v1 H fun v27 H =>
          W.call Tryz.prog (.func (.func 78) #[] #[]) #[v27, (.int .i64 0)] H fun v28 H =>
          Q v28 H)
         (fun H => W.bin .eql kind_1 (.int .i64 8) H fun v29 H =>
          W.cond v29 H
          (fun H => W.get v1 H fun v30 H =>
           W.call Tryz.prog (.func (.func 78) #[] #[]) #[v30, (.int .i64 1)] H fun v31 H =>
           Q v31 H)
          (fun H => W.bin .eql kind_1 (.int .i64 9) H fun v32 H =>
           W.cond v32 H
           (fun H => W.get v1 H fun v33 H =>
            W.call Tryz.prog (.func (.func 49) #[] #[]) #[v33, (.func (.func 79) #[] #[v1])] H fun v34 H =>
            Q v34 H)
           (fun H => W.bin .eql kind_1 (.int .i64 10) H fun v35 H =>
            W.cond v35 H
            (fun H => W.get v1 H fun v36 H =>
             W.call Tryz.prog (.func (.func 80) #[] #[]) #[v36] H fun v37 H =>
             Q v37 H)
            (fun H => W.get v1 H fun v38 H =>
             W.call Tryz.prog (.func (.func 49) #[] #[]) #[v38, (.func (.func 81) #[] #[v1])] H fun v39 H =>
             W.guarded v39 false (fun H k => W.get v1 H k) H fun v40 H =>
             W.guarded v39 false (fun H k => k (.func (.func 82) #[] #[v1]) H) H fun v41 H =>
             W.guarded v39 false (fun H k => W.call Tryz.prog (.func (.func 49) #[] #[]) #[v40, v41] H k) H fun v42 H =>
             W.pick v39 (.bool true) v42 H fun v43 H =>
             Q v43 H)))))))))))
theorem f51.enter {Q : Post} {m_0 : Value} {kind_1 : Value} {H : Heap} (h : f51.w Q m_0 kind_1 H) : Runs Tryz.prog 51 #[m_0, kind_1] H Q :=
  fn_enter (ann := []) (by kernel_rfl) Tryz.func51 rfl (by kernel_rfl) h (by kernel_rfl)

/- loop.example/g01343/spec.l09Convex -/
def f17.w (Q : Post) (p_0 : Value) (H : Heap) : Prop :=
  W.box p_0 32 H fun v1 H =>
  W.fieldAddr 0 v1 H fun v2 H =>
  W.get v2 H fun v3 H =>
  W.call Tryz.prog (.func (.func 41) #[] #[]) #[v3, (.int .i64 6)] H fun v4 H =>
  Q v4 H
theorem f17.enter {Q : Post} {p_0 : Value} {H : Heap} (h : f17.w Q p_0 H) : Runs Tryz.prog 17 #[p_0] H Q :=
  fn_enter (ann := []) (by kernel_rfl) Tryz.func17 rfl (by kernel_rfl) h (by kernel_rfl)

/- loop.example/g01343/spec.l03Kind -/
def f41.l2 (Q : Post) (i_5 : Value) (m_0 : Value) (I1 : St [5] → Heap → Prop) (I2 : St [6] → Heap → Prop) (k_6 : Value) (H : Heap) : Prop :=
  W.bin .lss k_6 i_5 H fun v34 H =>
  W.cond v34 H
  (fun H => W.indexAddr 1 m_0 i_5 H fun v35 H =>
   W.get v35 H fun v36 H =>
   W.indexAddr 1 v36 k_6 H fun v37 H =>
   W.get v37 H fun v38 H =>
   W.indexAddr 1 m_0 k_6 H fun v39 H =>
   W.get v39 H fun v40 H =>
   W.indexAddr 1 v40 i_5 H fun v41 H =>
   W.get v41 H fun v42 H =>
   W.bin .neq v38 v42 H fun v43 H =>
   W.cond v43 H
   (fun H => Q (.bool false) H)
   (fun H => W.bin .add k_6 (.int .i64 1) H fun v44 H =>
    I2 (v44, ()) H))
  (fun H => W.bin .add i_5 (.int .i64 1) H fun v45 H =>
   I1 (v45, ()) H)
def f41.l1 (Q : Post) (m_0 : Value) (I1 : St [5] → Heap → Prop) (i_5 : Value) (H : Heap) : Prop :=
  W.len m_0 H fun v32 H =>
  W.bin .lss i_5 v32 H fun v33 H =>
  W.cond v33 H
  (fun H => W.loop (S := St [6]) (fun I2 s H => f41.l2 Q i_5 m_0 I1 I2 s.1 H) ((.int .i64 0), ()) H)
  (fun H => Q (.bool true) H)
def f41.w (Q : Post) (m_0 : Value) (kind_1 : Value) (H : Heap) : Prop :=
  W.bin .eql kind_1 (.int .i64 0) H fun v1 H =>
  W.cond v1 H
  (fun H => W.call Tryz.prog (.func (.func 61) #[] #[]) #[m_0] H fun v2 H =>
   W.bin .gtr v2 (.int .i64 0) H fun v3 H =>
   Q v3 H)
  (fun H => W.bin .eql kind_1 (.int .i64 1) H fun v4 H =>
   W.cond v4 H
   (fun H => W.call Tryz.prog (.func (.func 61) #[] #[]) #[m_0] H fun v5 H =>
    W.bin .geq v5 (.int .i64 0) H fun v6 H =>
    Q v6 H)
   (fun H => W.bin .eql kind_1 (.int .i64 2) H fun v7 H =>
    W.cond v7 H
    (fun H => W.call Tryz.prog (.func (.func 62) #[] #[]) #[m_0] H fun v8 H =>
     Q v8 H)
    (fun H => W.bin .eql kind_1 (.int .i64 3) H fun v9 H =>
     W.cond v9 H
     (fun H => W.call Tryz.prog (.func (.func 62) #[] #[]) #[m_0] H fun v10 H =>
      W.guarded v10 true (fun H k => k m_0 H) H fun v11 H =>
      W.guarded v10 true (fun H k => W.call Tryz.prog (.func (.func 61) #[] #[]) #[v11] H k) H fun v12 H =>
      W.guarded v10 true (fun H k => W.bin .gtr v12 (.int .i64 0) H k) H fun v13 H =>
      W.pick v10 v13 (.bool false) H fun v14 H =>
      Q v14 H)
     (fun H => W.bin .eql kind_1 (.int .i64 4) H fun v15 H =>
      W.cond v15 H
      (fun H => W.call Tryz.prog (.func (.func 63) #[] #[]) #[m_0] H fun v16 H =>
       W.call Tryz.prog (.func (.func 61) #[] #[]) #[v16] H fun v17 H =>
       W.bin .gtr v17 (.int .i64 0) H fun v18 H =>
       Q v18 H)
      (fun H => W.bin .eql kind_1 (.int .i64 5) H fun v19 H =>
       W.cond v19 H
       (fun H => W.call Tryz.prog (.func (.func 64) #[] #[]) #[m_0] H fun v20 H =>
        W.call Tryz.prog (.func (.func 61) #[] #[]) #[v20] H fun v21 H =>
        W.bin .gtr v21 (.int .i64 0) H fun v22 H =>
        Q v22 H)
       (fun H => W.bin .eql kind_1 (.int .i64 6) H fun v23 H =>
        W.cond v23 H
        (fun H => W.call Tryz.prog (.func (.func 64) #[] #[]) #[m_0] H fun v24 H =>
         W.call Tryz.prog (.func (.func 61) #[] #[]) #[v24] H fun v25 H =>
         W.bin .geq v25 (.int .i64 0) H fun v26 H =>
         Q v26 H)
        (fun H => W.bin .eql kind_1 (.int .i64 7) H fun v27 H =>
         W.cond v27 H
         (fun H => W.call Tryz.prog (.func (.func 65) #[] #[]) #[m_0, (.bool false)] H fun v28 H =>
          Q v28 H)
         (fun H => W.bin .eql kind_1 (.int .i64 8) H fun v29 H =>
          W.cond v29 H
          (fun H => W.call Tryz.prog (.func (.func 65) #[] #[]) #[m_0, (.bool true)] H fun v30 H =>
           Q v30 H)
          (fun H => W.bin .eql kind_1 (.int .i64 9) H fun v31 H =>
           W.cond v31 H
           (fun H => W.loop (S := St [5]) (fun I1 s H => f41.l1 Q m_0 I1 s.1 H) ((.int .i64 0), ()) H)
           (fun H => W.bin .eql kind_1 (.int .i64 10) H fun v46 H =>
            W.cond v46 H
            (fun H => W.call Tryz.prog (.func (.func 66) #[] #[]) #[m_0] H fun v47 H =>
             Q v47 H)
            (fun H => W.call Tryz.prog (.func (.func 67) #[] #[]) #[m_0] H fun v48 H =>
             Q v48 H)))))))))))
theorem f41.enter {Q : Post} {m_0 : Value} {kind_1 : Value} {H : Heap} (h : f41.w Q m_0 kind_1 H) : Runs Tryz.prog 41 #[m_0, kind_1] H Q :=
  fn_enter (ann := [(22, [5]), (25, [6])]) (by kernel_rfl) Tryz.func41 rfl (by kernel_rfl) h (by kernel_rfl)


/-- The matrix of a program is square, its numbers are small. -/
theorem IsPrg.sq {p : Prg} (hp : IsPrg p) : Sq p.2.1.length p.1 ∧ ∀ r c, (mAt p.1 r c).natAbs ≤ 20 := by
  refine ⟨⟨hp.dl, fun r hr => (hp.d r hr).1⟩, fun r c => ?_⟩
  simp only [mAt, List.getD_eq_getElem?_getD]
  cases e1 : p.1[r]? with
  | none => simp
  | some row =>
    simp only [Option.getD_some]
    cases e2 : row[c]? with
    | none => simp
    | some x =>
      have := (hp.d row (List.mem_of_getElem? e1)).2 x (List.mem_of_getElem? e2)
      simp only [Option.getD_some]
      omega

theorem symL_abs {n : Nat} {m : List (List Int)} (h : ∀ r c, (mAt m r c).natAbs ≤ 20) : ∀ r c, (mAt (symL n m) r c).natAbs ≤ 40 := tabL_abs fun r c => by
  have h1 := h r c
  have h2 := h c r
  omega

/-- All minors of twice the symmetric part are at least 0. -/
def semiL (n : Nat) (m : List (List Int)) : Bool := (minorsL n (symL n m)).all fun x => decide (0 ≤ x)

noncomputable def convRes (p : Prg) : Bool × Int := open Classical in if IsPrg p then (semiL p.2.1.length p.1, 0) else (false, 1)

theorem fn51 {H0 : Heap} {Q : Post} {v : Value} {m : List (List Int)} {n : Nat} (hr : Has RSS H0 [v] m) (hs : Sq n m) (hn : n ≤ 5) (hB : ∀ r c, (mAt m r c).natAbs ≤ 20)
    (hQ : ∀ H', H0.Le H' → Q (.bool (semiL n m)) H') : Runs Tryz.prog 51 #[v, .int .i64 6] H0 Q := by
  have h := (Loc.start H0).lent hr
  refine f51.enter (Wl.box1 h hr.cell1 fun H b h => ?_)
  refine Wi.eqlC (fun h => absurd h (by decide)) fun _ => Wi.fls (Wi.eqlC (fun h => absurd h (by decide)) fun _ => Wi.fls (Wi.eqlC (fun h => absurd h (by decide)) fun _ => Wi.fls (Wi.eqlC (fun h => absurd h (by decide)) fun _ => Wi.fls (Wi.eqlC (fun h => absurd h (by decide)) fun _ => Wi.fls (Wi.eqlC (fun h => absurd h (by decide)) fun _ => Wi.fls (Wi.eqlC (fun _ => Wi.tru ?_) fun h => absurd rfl h))))))
  refine Wl.get h rfl (Wi.call (fn77 (h.rd (cs := [v])) hs hn hB fun H u f => ?_))
  have h := h.add f
  exact Wi.call (fn73 (h.rd (cs := [u])) (tabL_sq n _) hn (symL_abs hB) fun H l => hQ _ (h.to l).le)

theorem fn41 {H0 : Heap} {Q : Post} {v : Value} {m : List (List Int)} {n : Nat} (hr : Has RSS H0 [v] m) (hs : Sq n m) (hn : n ≤ 5) (hB : ∀ r c, (mAt m r c).natAbs ≤ 20)
    (hQ : ∀ H', H0.Le H' → Q (.bool (semiL n m)) H') : Runs Tryz.prog 41 #[v, .int .i64 6] H0 Q := by
  refine f41.enter ?_
  unfold f41.w
  refine Wi.eqlC (fun h => absurd h (by decide)) fun _ => Wi.fls (Wi.eqlC (fun h => absurd h (by decide)) fun _ => Wi.fls (Wi.eqlC (fun h => absurd h (by decide)) fun _ => Wi.fls (Wi.eqlC (fun h => absurd h (by decide)) fun _ => Wi.fls (Wi.eqlC (fun h => absurd h (by decide)) fun _ => Wi.fls (Wi.eqlC (fun h => absurd h (by decide)) fun _ => Wi.fls (Wi.eqlC (fun _ => Wi.tru ?_) fun h => absurd rfl h))))))
  refine Wi.call (fn64 hr hs hn hB fun H u f => ?_)
  have h := ((Loc.start H0).addG f).asData (i := 0) rfl
  refine Wi.call (fn61 (h.rd (cs := [u])).ofG (tabL_sq n _) hn (symL_abs hB) fun H r l h1 h2 => Wi.geq ?_)
  have e : decide (0 ≤ r) = semiL n m := by
    unfold semiL
    rw [Bool.eq_iff_iff, List.all_eq_true]
    simp only [decide_eq_true_eq]
    exact ⟨fun g x hx => Int.le_trans g (h2 x hx), fun g => g r h1⟩
  rw [e]
  exact hQ _ (h.to l).le

theorem fn26 {H0 : Heap} {Q : Post} {cs : List Value} {p : Prg} (hr : Has RPrg H0 cs p) (hp : IsPrg p) (hQ : ∀ H', H0.Le H' → Q (.bool (semiL p.2.1.length p.1)) H') : Runs Tryz.prog 26 #[.agg cs.toArray] H0 Q := by
  obtain ⟨u1, u2, u3, u4, rfl, r1, r2, r3, r4⟩ := hasPrg hr
  have h := (Loc.start H0).lent r1
  have nm := hp.nm
  refine f26.enter (Wl.box h fun H b h => Wi.fieldAddr0 (Wl.get h rfl (Wi.call (fn51 (h.rd (cs := [u1])) hp.sq.1 (by omega) hp.sq.2 fun H l => hQ _ (h.to l).le))))

theorem fn17 {H0 : Heap} {Q : Post} {cs : List Value} {p : Prg} (hr : Has RPrg H0 cs p) (hp : IsPrg p) (hQ : ∀ H', H0.Le H' → Q (.bool (semiL p.2.1.length p.1)) H') : Runs Tryz.prog 17 #[.agg cs.toArray] H0 Q := by
  obtain ⟨u1, u2, u3, u4, rfl, r1, r2, r3, r4⟩ := hasPrg hr
  have h := (Loc.start H0).lent r1
  have nm := hp.nm
  refine f17.enter (Wl.box h fun H b h => Wi.fieldAddr0 (Wl.get h rfl (Wi.call (fn41 (h.rd (cs := [u1])) hp.sq.1 (by omega) hp.sq.2 fun H l => hQ _ (h.to l).le))))



end Go.Proofs.YtmhbbkidedjefaaGreat
