/- Contracts of the program's small tests of numbers, lists and rows. No condition. -/
import Derived.Test.YthfcodelpebjcaaA1
import Derived.Test.YthfcodelpebjcaaZabG5
namespace Go.Proofs.Ythfcodelpebjcaa
open Go.Ab

/- loop.example/g01343/impl.within -/
def f69.w (Q : Post) (n_0 : Value) (low_1 : Value) (high_2 : Value) (H : Heap) : Prop :=
  W.bin .geq n_0 low_1 H fun v1 H =>
  W.guarded v1 true (fun H k => k n_0 H) H fun v2 H =>
  W.guarded v1 true (fun H k => k high_2 H) H fun v3 H =>
  W.guarded v1 true (fun H k => W.bin .leq v2 v3 H k) H fun v4 H =>
  W.pick v1 v4 (.bool false) H fun v5 H =>
  Q v5 H
theorem f69.enter {Q : Post} {n_0 : Value} {low_1 : Value} {high_2 : Value} {H : Heap} (h : f69.w Q n_0 low_1 high_2 H) : Runs Try.prog 69 #[n_0, low_1, high_2] H Q :=
  fn_enter (ann := []) (by kernel_rfl) Try.func69 rfl (by kernel_rfl) h (by kernel_rfl)

/- loop.example/g01343/impl.upTo -/
def f111.w (Q : Post) (n_0 : Value) (most_1 : Value) (H : Heap) : Prop :=
  W.un .neg most_1 H fun v1 H =>
  W.call Try.prog (.func (.func 69) #[] #[]) #[n_0, v1, most_1] H fun v2 H =>
  Q v2 H
theorem f111.enter {Q : Post} {n_0 : Value} {most_1 : Value} {H : Heap} (h : f111.w Q n_0 most_1 H) : Runs Try.prog 111 #[n_0, most_1] H Q :=
  fn_enter (ann := []) (by kernel_rfl) Try.func111 rfl (by kernel_rfl) h (by kernel_rfl)

/- slices.IndexFunc[[]int64,int64] -/
def f106.l1 (Q : Post) (v1 : Value) (s_0 : Value) (f_1 : Value) (I1 : St [8] → Heap → Prop) (x_8 : Value) (H : Heap) : Prop :=
  W.bin .lss x_8 v1 H fun v2 H =>
  W.cond v2 H
  (fun H => W.indexAddr 1 s_0 x_8 H fun v3 H =>
   W.get v3 H fun v4 H =>
   W.call Try.prog f_1 #[v4] H fun v5 H =>
   W.cond v5 H
   (fun H => Q x_8 H)
   (fun H => W.bin .add x_8 (.int .i64 1) H fun v6 H =>
    I1 (v6, ()) H))
  (fun H => Q (.int .i64 (-1)) H)
def f106.w (Q : Post) (s_0 : Value) (f_1 : Value) (H : Heap) : Prop :=
  W.len s_0 H fun v1 H =>
  W.loop (S := St [8]) (fun I1 s H => f106.l1 Q v1 s_0 f_1 I1 s.1 H) ((.int .i64 0), ()) H
theorem f106.enter {Q : Post} {s_0 : Value} {f_1 : Value} {H : Heap} (h : f106.w Q s_0 f_1 H) : Runs Try.prog 106 #[s_0, f_1] H Q :=
  fn_enter (ann := [(2, [8])]) (by kernel_rfl) Try.func106 rfl (by kernel_rfl) h (by kernel_rfl)

/- slices.IndexFunc[[][]int64,[]int64] -/
def f115.l1 (Q : Post) (v1 : Value) (s_0 : Value) (f_1 : Value) (I1 : St [8] → Heap → Prop) (x_8 : Value) (H : Heap) : Prop :=
  W.bin .lss x_8 v1 H fun v2 H =>
  W.cond v2 H
  (fun H => W.indexAddr 1 s_0 x_8 H fun v3 H =>
   W.get v3 H fun v4 H =>
   W.call Try.prog f_1 #[v4] H fun v5 H =>
   W.cond v5 H
   (fun H => Q x_8 H)
   (fun H => W.bin .add x_8 (.int .i64 1) H fun v6 H =>
    I1 (v6, ()) H))
  (fun H => Q (.int .i64 (-1)) H)
def f115.w (Q : Post) (s_0 : Value) (f_1 : Value) (H : Heap) : Prop :=
  W.len s_0 H fun v1 H =>
  W.loop (S := St [8]) (fun I1 s H => f115.l1 Q v1 s_0 f_1 I1 s.1 H) ((.int .i64 0), ()) H
theorem f115.enter {Q : Post} {s_0 : Value} {f_1 : Value} {H : Heap} (h : f115.w Q s_0 f_1 H) : Runs Try.prog 115 #[s_0, f_1] H Q :=
  fn_enter (ann := [(2, [8])]) (by kernel_rfl) Try.func115 rfl (by kernel_rfl) h (by kernel_rfl)

/- slices.ContainsFunc[[]int64,int64] -/
def f74.w (Q : Post) (s_0 : Value) (f_1 : Value) (H : Heap) : Prop :=
  W.call Try.prog (.func (.func 106) #[] #[]) #[s_0, f_1] H fun v1 H =>
  W.bin .geq v1 (.int .i64 0) H fun v2 H =>
  Q v2 H
theorem f74.enter {Q : Post} {s_0 : Value} {f_1 : Value} {H : Heap} (h : f74.w Q s_0 f_1 H) : Runs Try.prog 74 #[s_0, f_1] H Q :=
  fn_enter (ann := []) (by kernel_rfl) Try.func74 rfl (by kernel_rfl) h (by kernel_rfl)

/- slices.ContainsFunc[[][]int64,[]int64] -/
def f108.w (Q : Post) (s_0 : Value) (f_1 : Value) (H : Heap) : Prop :=
  W.call Try.prog (.func (.func 115) #[] #[]) #[s_0, f_1] H fun v1 H =>
  W.bin .geq v1 (.int .i64 0) H fun v2 H =>
  Q v2 H
theorem f108.enter {Q : Post} {s_0 : Value} {f_1 : Value} {H : Heap} (h : f108.w Q s_0 f_1 H) : Runs Try.prog 108 #[s_0, f_1] H Q :=
  fn_enter (ann := []) (by kernel_rfl) Try.func108 rfl (by kernel_rfl) h (by kernel_rfl)

/- loop.example/g01343/impl.allUpTo -/
def f79.w (Q : Post) (list_0 : Value) (most_1 : Value) (H : Heap) : Prop :=
  W.box most_1 2 H fun v1 H =>
  W.call Try.prog (.func (.func 74) #[] #[]) #[list_0, (.func (.func 110) #[] #[v1])] H fun v2 H =>
  W.un .not v2 H fun v3 H =>
  Q v3 H
theorem f79.enter {Q : Post} {list_0 : Value} {most_1 : Value} {H : Heap} (h : f79.w Q list_0 most_1 H) : Runs Try.prog 79 #[list_0, most_1] H Q :=
  fn_enter (ann := []) (by kernel_rfl) Try.func79 rfl (by kernel_rfl) h (by kernel_rfl)

/- loop.example/g01343/impl.allUpTo$1 -/
def f110.w (Q : Post) (n_0 : Value) (x_1 : Value) (H : Heap) : Prop :=
  W.get x_1 H fun v1 H =>
  W.call Try.prog (.func (.func 111) #[] #[]) #[n_0, v1] H fun v2 H =>
  W.un .not v2 H fun v3 H =>
  Q v3 H
theorem f110.enter {Q : Post} {n_0 : Value} {x_1 : Value} {H : Heap} (h : f110.w Q n_0 x_1 H) : Runs Try.prog 110 #[n_0, x_1] H Q :=
  fn_enter (ann := []) (by kernel_rfl) Try.func110 rfl (by kernel_rfl) h (by kernel_rfl)

/- loop.example/g01343/impl.isSquare -/
def f107.w (Q : Post) (m_0 : Value) (n_1 : Value) (H : Heap) : Prop :=
  W.box n_1 3 H fun v1 H =>
  W.len m_0 H fun v2 H =>
  W.get v1 H fun v3 H =>
  W.bin .eql v2 v3 H fun v4 H =>
  W.guarded v4 true (fun H k => k m_0 H) H fun v5 H =>
  W.guarded v4 true (fun H k => k (.func (.func 122) #[] #[v1]) H) H fun v6 H =>
  W.guarded v4 true (fun H k => W.call Try.prog (.func (.func 108) #[] #[]) #[v5, v6] H k) H fun v7 H =>
  W.guarded v4 true (fun H k => W.un .not v7 H k) H fun v8 H =>
  W.pick v4 v8 (.bool false) H fun v9 H =>
  Q v9 H
theorem f107.enter {Q : Post} {m_0 : Value} {n_1 : Value} {H : Heap} (h : f107.w Q m_0 n_1 H) : Runs Try.prog 107 #[m_0, n_1] H Q :=
  fn_enter (ann := []) (by kernel_rfl) Try.func107 rfl (by kernel_rfl) h (by kernel_rfl)

/- loop.example/g01343/impl.isSquare$1 -/
def f122.w (Q : Post) (row_0 : Value) (x_1 : Value) (H : Heap) : Prop :=
  W.len row_0 H fun v1 H =>
  W.get x_1 H fun v2 H =>
  W.bin .neq v1 v2 H fun v3 H =>
  Q v3 H
theorem f122.enter {Q : Post} {row_0 : Value} {x_1 : Value} {H : Heap} (h : f122.w Q row_0 x_1 H) : Runs Try.prog 122 #[row_0, x_1] H Q :=
  fn_enter (ann := []) (by kernel_rfl) Try.func122 rfl (by kernel_rfl) h (by kernel_rfl)


theorem fn69 {H : Heap} {Q : Post} {n lo hi : Int} (h : Q (.bool (inR lo hi n)) H) : Runs Try.prog 69 #[.int .i64 n, .int .i64 lo, .int .i64 hi] H Q := by
  refine f69.enter ?_
  unfold f69.w
  refine Wi.geq ?_
  unfold inR at h
  cases hb : decide (lo ≤ n) with
  | true =>
    rw [hb] at h
    exact Wi.gT (Wi.gT (Wi.gT (Wi.leq (Wi.pickT h))))
  | false =>
    rw [hb] at h
    exact Wi.gF (Wi.gF (Wi.gF (Wi.pickF h)))

theorem fn111 {H : Heap} {Q : Post} {n m : Int} (hm : I64 (-m)) (h : Q (.bool (inR (-m) m n)) H) : Runs Try.prog 111 #[.int .i64 n, .int .i64 m] H Q :=
  f111.enter (Wi.neg hm (Wi.call (fn69 h)))

theorem index106 : IndexF Try.prog 106 Rd.int := IndexF.of rfl (n := 8) fun _ _ _ _ h => f106.enter h
theorem index115 : IndexF Try.prog 115 RS := IndexF.of rfl (n := 8) fun _ _ _ _ h => f115.enter h
theorem contains74 : ContainsF Try.prog 74 Rd.int := ContainsF.of index106 fun _ _ _ _ h => f74.enter h
theorem contains108 : ContainsF Try.prog 108 RS := ContainsF.of index115 fun _ _ _ _ h => f108.enter h

/-- All numbers are from -m to m. -/
def allUp (m : Int) (xs : List Int) : Bool := xs.all (inR (-m) m)

theorem fn79 {H : Heap} {Q : Post} {bs : List Nat} {v : Value} {xs : List Int} {m : Int} (hm : I64 (-m)) (hr : RS.rel H bs [v] xs) (h : ∀ H', H.Le H' → Q (.bool (allUp m xs)) H') : Runs Try.prog 79 #[v, .int .i64 m] H Q := by
  refine f79.enter ?_
  unfold f79.w
  refine Wi.box1 rfl fun H1 l1 n1 k1 => Wi.call (contains74 _ _ _ _ _ (fun x => !inR (-m) m x) _ (Rd.le _ hr l1) ?_ fun H2 l2 => ?_)
  · intro H' bs u x K l hr hK
    obtain ⟨_, hu, _⟩ := hr
    simp only [List.cons.injEq, and_true] at hu
    subst hu
    exact Wi.callV (f110.enter (Wi.get (l.at k1 (by omega)) rfl (Wi.call (fn111 hm (Wi.not (hK _ (.refl _)))))))
  · refine Wi.not ?_
    have e : (!xs.any fun x => !inR (-m) m x) = allUp m xs := by
      unfold allUp
      rw [← List.all_eq_not_any_not]
    rw [e]
    exact h H2 (l1.trans l2)

/-- A square of numbers, n rows of n. -/
def isSq (n : Nat) (m : List (List Int)) : Bool := decide (m.length = n) && m.all (fun r => decide (r.length = n))

theorem int_beq (a b : Nat) : ((a : Int) == (b : Int)) = decide (a = b) := by
  by_cases h : a = b
  · subst h; simp
  · have : ¬ (a : Int) = b := by omega
    simp [h, this]

theorem int_bne (a b : Nat) : ((a : Int) != (b : Int)) = !decide (a = b) := by
  rw [bne, int_beq]

theorem fn107 {H : Heap} {Q : Post} {bs : List Nat} {v : Value} {m : List (List Int)} {n : Nat} (hr : RSS.rel H bs [v] m) (h : ∀ H', H.Le H' → Q (.bool (isSq n m)) H') : Runs Try.prog 107 #[v, .int .i64 n] H Q := by
  refine f107.enter ?_
  unfold f107.w
  obtain ⟨p1, e1, g1⟩ := Rd.slice_val hr
  simp only [List.cons.injEq, and_true] at g1
  rw [g1]
  refine Wi.box1 rfl fun H1 l1 n1 k1 => Wi.len (Wi.get k1 rfl (Wi.eql ?_))
  rw [int_beq]
  unfold isSq at h
  cases hb : decide (m.length = n) with
  | false =>
    rw [hb] at h
    exact Wi.gF (Wi.gF (Wi.gF (Wi.gF (Wi.pickF (h H1 l1)))))
  | true =>
    rw [hb] at h
    rw [← g1]
    refine Wi.gT (Wi.gT (Wi.gT (Wi.call (contains108 _ _ _ _ _ (fun r => !decide (r.length = n)) _ (Rd.le _ hr l1) ?_ fun H2 l2 => Wi.gT (Wi.not (Wi.pickT ?_))))))
    · intro H' bs u x K l hr hK
      obtain ⟨p2, e2, g2⟩ := Rd.slice_val hr
      simp only [List.cons.injEq, and_true] at g2
      subst g2
      refine Wi.callV (f122.enter (Wi.len (Wi.get (l.at k1 (by omega)) rfl (Wi.neq ?_))))
      rw [int_bne]
      exact hK _ (.refl _)
    · have e : (!m.any fun r => !decide (r.length = n)) = m.all (fun r => decide (r.length = n)) := by rw [← List.all_eq_not_any_not]
      rw [e]
      have := h H2 (l1.trans l2)
      simpa using this

end Go.Proofs.Ythfcodelpebjcaa
