/- Contracts of the program's small tests of numbers, lists and rows. No condition. -/
import Derived.Test.YtmhbbkidedjefaaGreatA1
import Derived.Test.YtmhbbkidedjefaaGreatZabG5
namespace Go.Proofs.YtmhbbkidedjefaaGreat
open Go.Ab

/- loop.example/g01343/impl.within -/
def f91.w (Q : Post) (n_0 : Value) (low_1 : Value) (high_2 : Value) (H : Heap) : Prop :=
  W.bin .geq n_0 low_1 H fun v1 H =>
  W.guarded v1 true (fun H k => k n_0 H) H fun v2 H =>
  W.guarded v1 true (fun H k => k high_2 H) H fun v3 H =>
  W.guarded v1 true (fun H k => W.bin .leq v2 v3 H k) H fun v4 H =>
  W.pick v1 v4 (.bool false) H fun v5 H =>
  Q v5 H
theorem f91.enter {Q : Post} {n_0 : Value} {low_1 : Value} {high_2 : Value} {H : Heap} (h : f91.w Q n_0 low_1 high_2 H) : Runs Tryz.prog 91 #[n_0, low_1, high_2] H Q :=
  fn_enter (ann := []) (by kernel_rfl) Tryz.func91 rfl (by kernel_rfl) h (by kernel_rfl)

/- loop.example/g01343/impl.upTo -/
def f71.w (Q : Post) (n_0 : Value) (most_1 : Value) (H : Heap) : Prop :=
  W.un .neg most_1 H fun v1 H =>
  W.call Tryz.prog (.func (.func 91) #[] #[]) #[n_0, v1, most_1] H fun v2 H =>
  Q v2 H
theorem f71.enter {Q : Post} {n_0 : Value} {most_1 : Value} {H : Heap} (h : f71.w Q n_0 most_1 H) : Runs Tryz.prog 71 #[n_0, most_1] H Q :=
  fn_enter (ann := []) (by kernel_rfl) Tryz.func71 rfl (by kernel_rfl) h (by kernel_rfl)

/- slices.IndexFunc[[]int64,int64] -/
def f90.l1 (Q : Post) (v1 : Value) (s_0 : Value) (f_1 : Value) (I1 : St [8] → Heap → Prop) (x_8 : Value) (H : Heap) : Prop :=
  W.bin .lss x_8 v1 H fun v2 H =>
  W.cond v2 H
  (fun H => W.indexAddr 1 s_0 x_8 H fun v3 H =>
   W.get v3 H fun v4 H =>
   W.call Tryz.prog f_1 #[v4] H fun v5 H =>
   W.cond v5 H
   (fun H => Q x_8 H)
   (fun H => W.bin .add x_8 (.int .i64 1) H fun v6 H =>
    I1 (v6, ()) H))
  (fun H => Q (.int .i64 (-1)) H)
def f90.w (Q : Post) (s_0 : Value) (f_1 : Value) (H : Heap) : Prop :=
  W.len s_0 H fun v1 H =>
  W.loop (S := St [8]) (fun I1 s H => f90.l1 Q v1 s_0 f_1 I1 s.1 H) ((.int .i64 0), ()) H
theorem f90.enter {Q : Post} {s_0 : Value} {f_1 : Value} {H : Heap} (h : f90.w Q s_0 f_1 H) : Runs Tryz.prog 90 #[s_0, f_1] H Q :=
  fn_enter (ann := [(2, [8])]) (by kernel_rfl) Tryz.func90 rfl (by kernel_rfl) h (by kernel_rfl)

/- slices.IndexFunc[[][]int64,[]int64] -/
def f96.l1 (Q : Post) (v1 : Value) (s_0 : Value) (f_1 : Value) (I1 : St [8] → Heap → Prop) (x_8 : Value) (H : Heap) : Prop :=
  W.bin .lss x_8 v1 H fun v2 H =>
  W.cond v2 H
  (fun H => W.indexAddr 1 s_0 x_8 H fun v3 H =>
   W.get v3 H fun v4 H =>
   W.call Tryz.prog f_1 #[v4] H fun v5 H =>
   W.cond v5 H
   (fun H => Q x_8 H)
   (fun H => W.bin .add x_8 (.int .i64 1) H fun v6 H =>
    I1 (v6, ()) H))
  (fun H => Q (.int .i64 (-1)) H)
def f96.w (Q : Post) (s_0 : Value) (f_1 : Value) (H : Heap) : Prop :=
  W.len s_0 H fun v1 H =>
  W.loop (S := St [8]) (fun I1 s H => f96.l1 Q v1 s_0 f_1 I1 s.1 H) ((.int .i64 0), ()) H
theorem f96.enter {Q : Post} {s_0 : Value} {f_1 : Value} {H : Heap} (h : f96.w Q s_0 f_1 H) : Runs Tryz.prog 96 #[s_0, f_1] H Q :=
  fn_enter (ann := [(2, [8])]) (by kernel_rfl) Tryz.func96 rfl (by kernel_rfl) h (by kernel_rfl)

/- slices.ContainsFunc[[]int64,int64] -/
def f56.w (Q : Post) (s_0 : Value) (f_1 : Value) (H : Heap) : Prop :=
  W.call Tryz.prog (.func (.func 90) #[] #[]) #[s_0, f_1] H fun v1 H =>
  W.bin .geq v1 (.int .i64 0) H fun v2 H =>
  Q v2 H
theorem f56.enter {Q : Post} {s_0 : Value} {f_1 : Value} {H : Heap} (h : f56.w Q s_0 f_1 H) : Runs Tryz.prog 56 #[s_0, f_1] H Q :=
  fn_enter (ann := []) (by kernel_rfl) Tryz.func56 rfl (by kernel_rfl) h (by kernel_rfl)

/- slices.ContainsFunc[[][]int64,[]int64] -/
def f68.w (Q : Post) (s_0 : Value) (f_1 : Value) (H : Heap) : Prop :=
  W.call Tryz.prog (.func (.func 96) #[] #[]) #[s_0, f_1] H fun v1 H =>
  W.bin .geq v1 (.int .i64 0) H fun v2 H =>
  Q v2 H
theorem f68.enter {Q : Post} {s_0 : Value} {f_1 : Value} {H : Heap} (h : f68.w Q s_0 f_1 H) : Runs Tryz.prog 68 #[s_0, f_1] H Q :=
  fn_enter (ann := []) (by kernel_rfl) Tryz.func68 rfl (by kernel_rfl) h (by kernel_rfl)

/- loop.example/g01343/impl.allUpTo -/
def f47.w (Q : Post) (list_0 : Value) (most_1 : Value) (H : Heap) : Prop :=
  W.box most_1 2 H fun v1 H =>
  W.call Tryz.prog (.func (.func 56) #[] #[]) #[list_0, (.func (.func 70) #[] #[v1])] H fun v2 H =>
  W.un .not v2 H fun v3 H =>
  Q v3 H
theorem f47.enter {Q : Post} {list_0 : Value} {most_1 : Value} {H : Heap} (h : f47.w Q list_0 most_1 H) : Runs Tryz.prog 47 #[list_0, most_1] H Q :=
  fn_enter (ann := []) (by kernel_rfl) Tryz.func47 rfl (by kernel_rfl) h (by kernel_rfl)

/- loop.example/g01343/impl.allUpTo$1 -/
def f70.w (Q : Post) (n_0 : Value) (x_1 : Value) (H : Heap) : Prop :=
  W.get x_1 H fun v1 H =>
  W.call Tryz.prog (.func (.func 71) #[] #[]) #[n_0, v1] H fun v2 H =>
  W.un .not v2 H fun v3 H =>
  Q v3 H
theorem f70.enter {Q : Post} {n_0 : Value} {x_1 : Value} {H : Heap} (h : f70.w Q n_0 x_1 H) : Runs Tryz.prog 70 #[n_0, x_1] H Q :=
  fn_enter (ann := []) (by kernel_rfl) Tryz.func70 rfl (by kernel_rfl) h (by kernel_rfl)

/- loop.example/g01343/impl.isSquare -/
def f46.w (Q : Post) (m_0 : Value) (n_1 : Value) (H : Heap) : Prop :=
  W.box n_1 3 H fun v1 H =>
  W.len m_0 H fun v2 H =>
  W.get v1 H fun v3 H =>
  W.bin .eql v2 v3 H fun v4 H =>
  W.guarded v4 true (fun H k => k m_0 H) H fun v5 H =>
  W.guarded v4 true (fun H k => k (.func (.func 69) #[] #[v1]) H) H fun v6 H =>
  W.guarded v4 true (fun H k => W.call Tryz.prog (.func (.func 68) #[] #[]) #[v5, v6] H k) H fun v7 H =>
  W.guarded v4 true (fun H k => W.un .not v7 H k) H fun v8 H =>
  W.pick v4 v8 (.bool false) H fun v9 H =>
  Q v9 H
theorem f46.enter {Q : Post} {m_0 : Value} {n_1 : Value} {H : Heap} (h : f46.w Q m_0 n_1 H) : Runs Tryz.prog 46 #[m_0, n_1] H Q :=
  fn_enter (ann := []) (by kernel_rfl) Tryz.func46 rfl (by kernel_rfl) h (by kernel_rfl)

/- loop.example/g01343/impl.isSquare$1 -/
def f69.w (Q : Post) (row_0 : Value) (x_1 : Value) (H : Heap) : Prop :=
  W.len row_0 H fun v1 H =>
  W.get x_1 H fun v2 H =>
  W.bin .neq v1 v2 H fun v3 H =>
  Q v3 H
theorem f69.enter {Q : Post} {row_0 : Value} {x_1 : Value} {H : Heap} (h : f69.w Q row_0 x_1 H) : Runs Tryz.prog 69 #[row_0, x_1] H Q :=
  fn_enter (ann := []) (by kernel_rfl) Tryz.func69 rfl (by kernel_rfl) h (by kernel_rfl)


theorem fn91 {H : Heap} {Q : Post} {n lo hi : Int} (h : Q (.bool (inR lo hi n)) H) : Runs Tryz.prog 91 #[.int .i64 n, .int .i64 lo, .int .i64 hi] H Q := by
  refine f91.enter ?_
  unfold f91.w
  refine Wi.geq ?_
  unfold inR at h
  cases hb : decide (lo ≤ n) with
  | true =>
    rw [hb] at h
    exact Wi.gT (Wi.gT (Wi.gT (Wi.leq (Wi.pickT h))))
  | false =>
    rw [hb] at h
    exact Wi.gF (Wi.gF (Wi.gF (Wi.pickF h)))

theorem fn71 {H : Heap} {Q : Post} {n m : Int} (hm : I64 (-m)) (h : Q (.bool (inR (-m) m n)) H) : Runs Tryz.prog 71 #[.int .i64 n, .int .i64 m] H Q :=
  f71.enter (Wi.neg hm (Wi.call (fn91 h)))

theorem index90 : IndexF Tryz.prog 90 Rd.int := IndexF.of rfl (n := 8) fun _ _ _ _ h => f90.enter h
theorem index96 : IndexF Tryz.prog 96 RS := IndexF.of rfl (n := 8) fun _ _ _ _ h => f96.enter h
theorem contains56 : ContainsF Tryz.prog 56 Rd.int := ContainsF.of index90 fun _ _ _ _ h => f56.enter h
theorem contains68 : ContainsF Tryz.prog 68 RS := ContainsF.of index96 fun _ _ _ _ h => f68.enter h

/-- All numbers are from -m to m. -/
def allUp (m : Int) (xs : List Int) : Bool := xs.all (inR (-m) m)

theorem fn47 {H : Heap} {Q : Post} {bs : List Nat} {v : Value} {xs : List Int} {m : Int} (hm : I64 (-m)) (hr : RS.rel H bs [v] xs) (h : ∀ H', H.Le H' → Q (.bool (allUp m xs)) H') : Runs Tryz.prog 47 #[v, .int .i64 m] H Q := by
  refine f47.enter ?_
  unfold f47.w
  refine Wi.box1 rfl fun H1 l1 n1 k1 => Wi.call (contains56 _ _ _ _ _ (fun x => !inR (-m) m x) _ (Rd.le _ hr l1) ?_ fun H2 l2 => ?_)
  · intro H' bs u x K l hr hK
    obtain ⟨_, hu, _⟩ := hr
    simp only [List.cons.injEq, and_true] at hu
    subst hu
    exact Wi.callV (f70.enter (Wi.get (l.at k1 (by omega)) rfl (Wi.call (fn71 hm (Wi.not (hK _ (.refl _)))))))
  · refine Wi.not ?_
    have e : (!xs.any fun x => !inR (-m) m x) = allUp m xs := by
      unfold allUp
      rw [← List.all_eq_not_any_not]
    rw [e]
    exact h H2 (l1.trans l2)

/-- A square of numbers, n rows of n. -/
def isSq (n : Nat) (m : List (List Int)) : Bool := decide (m.length = n) && m.all (fun r => decide (r.length = n))

theorem int_beq (a b : Nat) : ((a : Int) == (b : Int)) = decide (a = b) := by
  by_cases h : a = b
  · subst h; simp
  · have : ¬ (a : Int) = b := by omega
    simp [h, this]

theorem int_bne (a b : Nat) : ((a : Int) != (b : Int)) = !decide (a = b) := by
  rw [bne, int_beq]

theorem fn46 {H : Heap} {Q : Post} {bs : List Nat} {v : Value} {m : List (List Int)} {n : Nat} (hr : RSS.rel H bs [v] m) (h : ∀ H', H.Le H' → Q (.bool (isSq n m)) H') : Runs Tryz.prog 46 #[v, .int .i64 n] H Q := by
  refine f46.enter ?_
  unfold f46.w
  obtain ⟨p1, e1, g1⟩ := Rd.slice_val hr
  simp only [List.cons.injEq, and_true] at g1
  rw [g1]
  refine Wi.box1 rfl fun H1 l1 n1 k1 => Wi.len (Wi.get k1 rfl (Wi.eql ?_))
  rw [int_beq]
  unfold isSq at h
  cases hb : decide (m.length = n) with
  | false =>
    rw [hb] at h
    exact Wi.gF (Wi.gF (Wi.gF (Wi.gF (Wi.pickF (h H1 l1)))))
  | true =>
    rw [hb] at h
    rw [← g1]
    refine Wi.gT (Wi.gT (Wi.gT (Wi.call (contains68 _ _ _ _ _ (fun r => !decide (r.length = n)) _ (Rd.le _ hr l1) ?_ fun H2 l2 => Wi.gT (Wi.not (Wi.pickT ?_))))))
    · intro H' bs u x K l hr hK
      obtain ⟨p2, e2, g2⟩ := Rd.slice_val hr
      simp only [List.cons.injEq, and_true] at g2
      subst g2
      refine Wi.callV (f69.enter (Wi.len (Wi.get (l.at k1 (by omega)) rfl (Wi.neq ?_))))
      rw [int_bne]
      exact hK _ (.refl _)
    · have e : (!m.any fun r => !decide (r.length = n)) = m.all (fun r => decide (r.length = n)) := by rw [← List.all_eq_not_any_not]
      rw [e]
      have := h H2 (l1.trans l2)
      simpa using this

end Go.Proofs.YtmhbbkidedjefaaGreat
