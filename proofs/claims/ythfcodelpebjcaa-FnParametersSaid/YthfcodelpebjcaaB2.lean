/- Contracts of the program's IsMatrix, IsProblem and isSet. No condition. -/
import Derived.Test.YthfcodelpebjcaaB1
import Derived.Test.YthfcodelpebjcaaA2
namespace Go.Proofs.Ythfcodelpebjcaa
open Go.Ab

/- loop.example/g01343/impl.IsMatrix -/
def f78.w (Q : Post) (m_0 : Value) (H : Heap) : Prop :=
  W.len m_0 H fun v1 H =>
  W.call Try.prog (.func (.func 69) #[] #[]) #[v1, (.int .i64 1), (.int .i64 5)] H fun v2 H =>
  W.guarded v2 true (fun H k => k m_0 H) H fun v3 H =>
  W.guarded v2 true (fun H k => k m_0 H) H fun v4 H =>
  W.guarded v2 true (fun H k => W.len v4 H k) H fun v5 H =>
  W.guarded v2 true (fun H k => W.call Try.prog (.func (.func 107) #[] #[]) #[v3, v5] H k) H fun v6 H =>
  W.pick v2 v6 (.bool false) H fun v7 H =>
  W.guarded v7 true (fun H k => k m_0 H) H fun v8 H =>
  W.guarded v7 true (fun H k => W.call Try.prog (.func (.func 108) #[] #[]) #[v8, (.func (.func 109) #[] #[])] H k) H fun v9 H =>
  W.guarded v7 true (fun H k => W.un .not v9 H k) H fun v10 H =>
  W.pick v7 v10 (.bool false) H fun v11 H =>
  Q v11 H
theorem f78.enter {Q : Post} {m_0 : Value} {H : Heap} (h : f78.w Q m_0 H) : Runs Try.prog 78 #[m_0] H Q :=
  fn_enter (ann := []) (by kernel_rfl) Try.func78 rfl (by kernel_rfl) h (by kernel_rfl)

/- loop.example/g01343/impl.IsMatrix$1 -/
def f109.w (Q : Post) (row_0 : Value) (H : Heap) : Prop :=
  W.call Try.prog (.func (.func 79) #[] #[]) #[row_0, (.int .i64 20)] H fun v1 H =>
  W.un .not v1 H fun v2 H =>
  Q v2 H
theorem f109.enter {Q : Post} {row_0 : Value} {H : Heap} (h : f109.w Q row_0 H) : Runs Try.prog 109 #[row_0] H Q :=
  fn_enter (ann := []) (by kernel_rfl) Try.func109 rfl (by kernel_rfl) h (by kernel_rfl)

/- loop.example/g01343/impl.IsProblem -/
def f47.w (Q : Post) (p_0 : Value) (H : Heap) : Prop :=
  W.box p_0 27 H fun v1 H =>
  W.fieldAddr 0 v1 H fun v2 H =>
  W.get v2 H fun v3 H =>
  W.call Try.prog (.func (.func 78) #[] #[]) #[v3] H fun v4 H =>
  W.guarded v4 true (fun H k => W.fieldAddr 1 v1 H k) H fun v5 H =>
  W.guarded v4 true (fun H k => W.get v5 H k) H fun v6 H =>
  W.guarded v4 true (fun H k => W.len v6 H k) H fun v7 H =>
  W.guarded v4 true (fun H k => W.fieldAddr 0 v1 H k) H fun v8 H =>
  W.guarded v4 true (fun H k => W.get v8 H k) H fun v9 H =>
  W.guarded v4 true (fun H k => W.len v9 H k) H fun v10 H =>
  W.guarded v4 true (fun H k => W.bin .eql v7 v10 H k) H fun v11 H =>
  W.pick v4 v11 (.bool false) H fun v12 H =>
  W.guarded v12 true (fun H k => W.fieldAddr 1 v1 H k) H fun v13 H =>
  W.guarded v12 true (fun H k => W.get v13 H k) H fun v14 H =>
  W.guarded v12 true (fun H k => W.call Try.prog (.func (.func 79) #[] #[]) #[v14, (.int .i64 100)] H k) H fun v15 H =>
  W.pick v12 v15 (.bool false) H fun v16 H =>
  Q v16 H
theorem f47.enter {Q : Post} {p_0 : Value} {H : Heap} (h : f47.w Q p_0 H) : Runs Try.prog 47 #[p_0] H Q :=
  fn_enter (ann := []) (by kernel_rfl) Try.func47 rfl (by kernel_rfl) h (by kernel_rfl)


/-- A matrix: square, of 1 to 5 rows, numbers of at most 20. -/
def isMat (m : List (List Int)) : Bool := (inR 1 5 m.length && isSq m.length m) && m.all (allUp 20)

theorem fn78 {H : Heap} {Q : Post} {bs : List Nat} {v : Value} {m : List (List Int)} (hr : RSS.rel H bs [v] m) (h : ∀ H', H.Le H' → Q (.bool (isMat m)) H') : Runs Try.prog 78 #[v] H Q := by
  refine f78.enter ?_
  unfold f78.w
  obtain ⟨p1, e1, g1⟩ := Rd.slice_val hr
  simp only [List.cons.injEq, and_true] at g1
  rw [g1]
  refine Wi.len (Wi.call (fn69 ?_))
  rw [← g1]
  unfold isMat at h
  have tail : ∀ (b : Bool) (H1 : Heap), H.Le H1 → (∀ H', H1.Le H' → Q (.bool (b && m.all (allUp 20))) H') →
      W.guarded (.bool b) true (fun H k => k v H) H1 fun v8 H => W.guarded (.bool b) true (fun H k => W.call Try.prog (.func (.func 108) #[] #[]) #[v8, (.func (.func 109) #[] #[])] H k) H fun v9 H =>
        W.guarded (.bool b) true (fun H k => W.un .not v9 H k) H fun v10 H => W.pick (.bool b) v10 (.bool false) H fun v11 H => Q v11 H := by
    intro b H1 l1 h
    cases b with
    | false => exact Wi.gF (Wi.gF (Wi.gF (Wi.pickF (h H1 (.refl _)))))
    | true =>
      refine Wi.gT (Wi.gT (Wi.call (contains108 _ _ _ _ _ (fun r => !allUp 20 r) _ (Rd.le _ hr l1) ?_ fun H2 l2 => Wi.gT (Wi.not (Wi.pickT ?_)))))
      · intro H' bs u x K l hr hK
        exact Wi.call (f109.enter (Wi.call (fn79 (by unfold I64; omega) hr fun H2 l2 => Wi.not (hK H2 l2))))
      · have e : (!m.any fun r => !allUp 20 r) = m.all (allUp 20) := by rw [← List.all_eq_not_any_not]
        rw [e]
        exact h H2 l2
  cases hb : inR 1 5 m.length with
  | false =>
    rw [hb] at h
    exact Wi.gF (Wi.gF (Wi.gF (Wi.gF (Wi.pickF (tail false H (.refl _) h)))))
  | true =>
    rw [hb, Bool.true_and] at h
    refine Wi.gT (Wi.gT (Wi.gT ?_))
    rw [g1]
    refine Wi.len ?_
    rw [← g1]
    refine Wi.gT (Wi.call (fn107 hr fun H1 l1 => Wi.pickT (tail _ H1 l1 fun H2 l2 => h H2 (l1.trans l2))))


/-- A problem. -/
def isProb (p : Prob) : Bool := (isMat p.1 && decide (p.2.length = p.1.length)) && allUp 100 p.2

theorem fn47 {H : Heap} {Q : Post} {bs : List Nat} {cs : List Value} {p : Prob} (hr : RProblem.rel H bs cs p) (h : ∀ H', H.Le H' → Q (.bool (isProb p)) H') : Runs Try.prog 47 #[.agg cs.toArray] H Q := by
  obtain ⟨u1, u2, b1, b2, rfl, _, hr1, hr2⟩ := prob_cells hr
  refine f47.enter ?_
  unfold f47.w
  obtain ⟨p1, e1, g1⟩ := Rd.slice_val hr1
  obtain ⟨p2, e2, g2⟩ := Rd.slice_val hr2
  simp only [List.cons.injEq, and_true] at g1 g2
  refine Wi.box fun H1 l1 n1 k1 => Wi.fieldAddr0 (Wi.get k1 rfl (Wi.call (fn78 (Rd.le _ hr1 l1) fun H2 l2 => ?_)))
  have k2 := l2.at k1 (by omega)
  unfold isProb at h
  have l12 := l1.trans l2
  cases hb : isMat p.1 with
  | false =>
    rw [hb] at h
    exact Wi.gF (Wi.gF (Wi.gF (Wi.gF (Wi.gF (Wi.gF (Wi.gF (Wi.pickF (Wi.gF (Wi.gF (Wi.gF (Wi.pickF (h H2 l12))))))))))))
  | true =>
    rw [hb, Bool.true_and] at h
    refine Wi.gT (Wi.fieldAddr0 (Wi.gT (Wi.get k2 rfl (Wi.gT ?_))))
    rw [g2]
    refine Wi.len (Wi.gT (Wi.fieldAddr0 (Wi.gT (Wi.get k2 rfl (Wi.gT ?_)))))
    rw [g1]
    refine Wi.len (Wi.gT (Wi.eql (Wi.pickT ?_)))
    rw [int_beq]
    cases hl : decide (p.2.length = p.1.length) with
    | false =>
      rw [hl] at h
      exact Wi.gF (Wi.gF (Wi.gF (Wi.pickF (h H2 l12))))
    | true =>
      rw [hl, Bool.true_and] at h
      exact Wi.gT (Wi.fieldAddr0 (Wi.gT (Wi.get k2 rfl (Wi.gT (Wi.call (fn79 (by unfold I64; omega) (Rd.le _ hr2 l12) fun H3 l3 => Wi.pickT (h H3 (l12.trans l3))))))))

theorem isProb_len {p : Prob} (h : isProb p = true) : p.2.length ≤ 5 ∧ p.2.length = p.1.length := by
  simp only [isProb, isMat, inR, Bool.and_eq_true, decide_eq_true_eq] at h
  omega

end Go.Proofs.Ythfcodelpebjcaa
