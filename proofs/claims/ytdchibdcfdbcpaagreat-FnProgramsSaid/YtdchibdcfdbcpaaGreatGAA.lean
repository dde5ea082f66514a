/- The laws' helpers for numbers, lists and rows: comparing, marking, weighing, copying. No condition. -/
import Derived.Test.YtdchibdcfdbcpaaGreatProg
import Derived.Test.YtdchibdcfdbcpaaGreatZabG3
import Derived.Test.YtdchibdcfdbcpaaGreatZabG4
import Derived.Test.YtdchibdcfdbcpaaGreatZabG5
namespace Go.Proofs.YtdchibdcfdbcpaaGreat
open Go.Ab



abbrev RS : Rd (List Int) := Rd.slice Rd.int
abbrev RSS : Rd (List (List Int)) := Rd.slice RS

abbrev mkS := mkl (fun (_ : Int) k => k) (fun _ => 1)
abbrev szS := szl (fun (_ : Int) => 1)
abbrev mkSS := mkl mkS szS
abbrev szSS := szl szS

abbrev wSS : List (List Int) → Nat := wl List.length

theorem szl_le {α : Type} {w : α → Nat} {c : Nat} (xs : List α) (h : ∀ x ∈ xs, w x ≤ c) : szl w xs ≤ xs.length * c := by
  induction xs with
  | nil => simp [szl]
  | cons x xs ih =>
    simp only [szl, List.length_cons, Nat.succ_mul]
    have := h x (by simp)
    have := ih fun y hy => h y (List.mem_cons_of_mem _ hy)
    omega

end Go.Proofs.YtdchibdcfdbcpaaGreat
/-! The contract of the reference's l01In. No condition. -/
namespace Go.Proofs.YtdchibdcfdbcpaaGreat
open Go.Ab

/- loop.example/g01343/spec.l01In -/
def f77.w (Q : Post) (n_0 : Value) (low_1 : Value) (high_2 : Value) (H : Heap) : Prop :=
  W.bin .geq n_0 low_1 H fun v1 H =>
  W.guarded v1 true (fun H k => k n_0 H) H fun v2 H =>
  W.guarded v1 true (fun H k => k high_2 H) H fun v3 H =>
  W.guarded v1 true (fun H k => W.bin .leq v2 v3 H k) H fun v4 H =>
  W.pick v1 v4 (.bool false) H fun v5 H =>
  Q v5 H
theorem f77.enter {Q : Post} {n_0 : Value} {low_1 : Value} {high_2 : Value} {H : Heap} (h : f77.w Q n_0 low_1 high_2 H) : Runs Tryz.prog 77 #[n_0, low_1, high_2] H Q :=
  fn_enter (ann := []) (by kernel_rfl) Tryz.func77 rfl (by kernel_rfl) h (by kernel_rfl)


theorem fn77 {H : Heap} {Q : Post} {n lo hi : Int} (h : Q (.bool (inR lo hi n)) H) : Runs Tryz.prog 77 #[.int .i64 n, .int .i64 lo, .int .i64 hi] H Q := by
  refine f77.enter ?_
  unfold f77.w
  refine Wi.geq ?_
  unfold inR at h
  cases hb : decide (lo ≤ n) with
  | true =>
    rw [hb] at h
    exact Wi.gT (Wi.gT (Wi.gT (Wi.leq (Wi.pickT h))))
  | false =>
    rw [hb] at h
    exact Wi.gF (Wi.gF (Wi.gF (Wi.pickF h)))

end Go.Proofs.YtdchibdcfdbcpaaGreat

/-! Contracts of the program's small tests of numbers, lists and rows. No condition. -/
namespace Go.Proofs.YtdchibdcfdbcpaaGreat
open Go.Ab

/- loop.example/g01343/impl.within -/
def f71.w (Q : Post) (n_0 : Value) (low_1 : Value) (high_2 : Value) (H : Heap) : Prop :=
  W.bin .geq n_0 low_1 H fun v1 H =>
  W.guarded v1 true (fun H k => k n_0 H) H fun v2 H =>
  W.guarded v1 true (fun H k => k high_2 H) H fun v3 H =>
  W.guarded v1 true (fun H k => W.bin .leq v2 v3 H k) H fun v4 H =>
  W.pick v1 v4 (.bool false) H fun v5 H =>
  Q v5 H
theorem f71.enter {Q : Post} {n_0 : Value} {low_1 : Value} {high_2 : Value} {H : Heap} (h : f71.w Q n_0 low_1 high_2 H) : Runs Tryz.prog 71 #[n_0, low_1, high_2] H Q :=
  fn_enter (ann := []) (by kernel_rfl) Tryz.func71 rfl (by kernel_rfl) h (by kernel_rfl)

/- loop.example/g01343/impl.upTo -/
def f118.w (Q : Post) (n_0 : Value) (most_1 : Value) (H : Heap) : Prop :=
  W.un .neg most_1 H fun v1 H =>
  W.call Tryz.prog (.func (.func 71) #[] #[]) #[n_0, v1, most_1] H fun v2 H =>
  Q v2 H
theorem f118.enter {Q : Post} {n_0 : Value} {most_1 : Value} {H : Heap} (h : f118.w Q n_0 most_1 H) : Runs Tryz.prog 118 #[n_0, most_1] H Q :=
  fn_enter (ann := []) (by kernel_rfl) Tryz.func118 rfl (by kernel_rfl) h (by kernel_rfl)

/- slices.IndexFunc[[]int64,int64] -/
def f147.l1 (Q : Post) (v1 : Value) (s_0 : Value) (f_1 : Value) (I1 : St [8] → Heap → Prop) (x_8 : Value) (H : Heap) : Prop :=
  W.bin .lss x_8 v1 H fun v2 H =>
  W.cond v2 H
  (fun H => W.indexAddr 1 s_0 x_8 H fun v3 H =>
   W.get v3 H fun v4 H =>
   W.call Tryz.prog f_1 #[v4] H fun v5 H =>
   W.cond v5 H
   (fun H => Q x_8 H)
   (fun H => W.bin .add x_8 (.int .i64 1) H fun v6 H =>
    I1 (v6, ()) H))
  (fun H => Q (.int .i64 (-1)) H)
def f147.w (Q : Post) (s_0 : Value) (f_1 : Value) (H : Heap) : Prop :=
  W.len s_0 H fun v1 H =>
  W.loop (S := St [8]) (fun I1 s H => f147.l1 Q v1 s_0 f_1 I1 s.1 H) ((.int .i64 0), ()) H
theorem f147.enter {Q : Post} {s_0 : Value} {f_1 : Value} {H : Heap} (h : f147.w Q s_0 f_1 H) : Runs Tryz.prog 147 #[s_0, f_1] H Q :=
  fn_enter (ann := [(2, [8])]) (by kernel_rfl) Tryz.func147 rfl (by kernel_rfl) h (by kernel_rfl)

/- slices.IndexFunc[[][]int64,[]int64] -/
def f156.l1 (Q : Post) (v1 : Value) (s_0 : Value) (f_1 : Value) (I1 : St [8] → Heap → Prop) (x_8 : Value) (H : Heap) : Prop :=
  W.bin .lss x_8 v1 H fun v2 H =>
  W.cond v2 H
  (fun H => W.indexAddr 1 s_0 x_8 H fun v3 H =>
   W.get v3 H fun v4 H =>
   W.call Tryz.prog f_1 #[v4] H fun v5 H =>
   W.cond v5 H
   (fun H => Q x_8 H)
   (fun H => W.bin .add x_8 (.int .i64 1) H fun v6 H =>
    I1 (v6, ()) H))
  (fun H => Q (.int .i64 (-1)) H)
def f156.w (Q : Post) (s_0 : Value) (f_1 : Value) (H : Heap) : Prop :=
  W.len s_0 H fun v1 H =>
  W.loop (S := St [8]) (fun I1 s H => f156.l1 Q v1 s_0 f_1 I1 s.1 H) ((.int .i64 0), ()) H
theorem f156.enter {Q : Post} {s_0 : Value} {f_1 : Value} {H : Heap} (h : f156.w Q s_0 f_1 H) : Runs Tryz.prog 156 #[s_0, f_1] H Q :=
  fn_enter (ann := [(2, [8])]) (by kernel_rfl) Tryz.func156 rfl (by kernel_rfl) h (by kernel_rfl)

/- slices.ContainsFunc[[]int64,int64] -/
def f108.w (Q : Post) (s_0 : Value) (f_1 : Value) (H : Heap) : Prop :=
  W.call Tryz.prog (.func (.func 147) #[] #[]) #[s_0, f_1] H fun v1 H =>
  W.bin .geq v1 (.int .i64 0) H fun v2 H =>
  Q v2 H
theorem f108.enter {Q : Post} {s_0 : Value} {f_1 : Value} {H : Heap} (h : f108.w Q s_0 f_1 H) : Runs Tryz.prog 108 #[s_0, f_1] H Q :=
  fn_enter (ann := []) (by kernel_rfl) Tryz.func108 rfl (by kernel_rfl) h (by kernel_rfl)

/- slices.ContainsFunc[[][]int64,[]int64] -/
def f125.w (Q : Post) (s_0 : Value) (f_1 : Value) (H : Heap) : Prop :=
  W.call Tryz.prog (.func (.func 156) #[] #[]) #[s_0, f_1] H fun v1 H =>
  W.bin .geq v1 (.int .i64 0) H fun v2 H =>
  Q v2 H
theorem f125.enter {Q : Post} {s_0 : Value} {f_1 : Value} {H : Heap} (h : f125.w Q s_0 f_1 H) : Runs Tryz.prog 125 #[s_0, f_1] H Q :=
  fn_enter (ann := []) (by kernel_rfl) Tryz.func125 rfl (by kernel_rfl) h (by kernel_rfl)

/- loop.example/g01343/impl.allUpTo -/
def f85.w (Q : Post) (list_0 : Value) (most_1 : Value) (H : Heap) : Prop :=
  W.box most_1 2 H fun v1 H =>
  W.call Tryz.prog (.func (.func 108) #[] #[]) #[list_0, (.func (.func 117) #[] #[v1])] H fun v2 H =>
  W.un .not v2 H fun v3 H =>
  Q v3 H
theorem f85.enter {Q : Post} {list_0 : Value} {most_1 : Value} {H : Heap} (h : f85.w Q list_0 most_1 H) : Runs Tryz.prog 85 #[list_0, most_1] H Q :=
  fn_enter (ann := []) (by kernel_rfl) Tryz.func85 rfl (by kernel_rfl) h (by kernel_rfl)

/- loop.example/g01343/impl.allUpTo$1 -/
def f117.w (Q : Post) (n_0 : Value) (x_1 : Value) (H : Heap) : Prop :=
  W.get x_1 H fun v1 H =>
  W.call Tryz.prog (.func (.func 118) #[] #[]) #[n_0, v1] H fun v2 H =>
  W.un .not v2 H fun v3 H =>
  Q v3 H
theorem f117.enter {Q : Post} {n_0 : Value} {x_1 : Value} {H : Heap} (h : f117.w Q n_0 x_1 H) : Runs Tryz.prog 117 #[n_0, x_1] H Q :=
  fn_enter (ann := []) (by kernel_rfl) Tryz.func117 rfl (by kernel_rfl) h (by kernel_rfl)

/- loop.example/g01343/impl.isSquare -/
def f96.w (Q : Post) (m_0 : Value) (n_1 : Value) (H : Heap) : Prop :=
  W.box n_1 3 H fun v1 H =>
  W.len m_0 H fun v2 H =>
  W.get v1 H fun v3 H =>
  W.bin .eql v2 v3 H fun v4 H =>
  W.guarded v4 true (fun H k => k m_0 H) H fun v5 H =>
  W.guarded v4 true (fun H k => k (.func (.func 126) #[] #[v1]) H) H fun v6 H =>
  W.guarded v4 true (fun H k => W.call Tryz.prog (.func (.func 125) #[] #[]) #[v5, v6] H k) H fun v7 H =>
  W.guarded v4 true (fun H k => W.un .not v7 H k) H fun v8 H =>
  W.pick v4 v8 (.bool false) H fun v9 H =>
  Q v9 H
theorem f96.enter {Q : Post} {m_0 : Value} {n_1 : Value} {H : Heap} (h : f96.w Q m_0 n_1 H) : Runs Tryz.prog 96 #[m_0, n_1] H Q :=
  fn_enter (ann := []) (by kernel_rfl) Tryz.func96 rfl (by kernel_rfl) h (by kernel_rfl)

/- loop.example/g01343/impl.isSquare$1 -/
def f126.w (Q : Post) (row_0 : Value) (x_1 : Value) (H : Heap) : Prop :=
  W.len row_0 H fun v1 H =>
  W.get x_1 H fun v2 H =>
  W.bin .neq v1 v2 H fun v3 H =>
  Q v3 H
theorem f126.enter {Q : Post} {row_0 : Value} {x_1 : Value} {H : Heap} (h : f126.w Q row_0 x_1 H) : Runs Tryz.prog 126 #[row_0, x_1] H Q :=
  fn_enter (ann := []) (by kernel_rfl) Tryz.func126 rfl (by kernel_rfl) h (by kernel_rfl)


theorem fn71 {H : Heap} {Q : Post} {n lo hi : Int} (h : Q (.bool (inR lo hi n)) H) : Runs Tryz.prog 71 #[.int .i64 n, .int .i64 lo, .int .i64 hi] H Q := by
  refine f71.enter ?_
  unfold f71.w
  refine Wi.geq ?_
  unfold inR at h
  cases hb : decide (lo ≤ n) with
  | true =>
    rw [hb] at h
    exact Wi.gT (Wi.gT (Wi.gT (Wi.leq (Wi.pickT h))))
  | false =>
    rw [hb] at h
    exact Wi.gF (Wi.gF (Wi.gF (Wi.pickF h)))

theorem fn118 {H : Heap} {Q : Post} {n m : Int} (hm : I64 (-m)) (h : Q (.bool (inR (-m) m n)) H) : Runs Tryz.prog 118 #[.int .i64 n, .int .i64 m] H Q :=
  f118.enter (Wi.neg hm (Wi.call (fn71 h)))

theorem index147 : IndexF Tryz.prog 147 Rd.int := IndexF.of rfl (n := 8) fun _ _ _ _ h => f147.enter h
theorem index156 : IndexF Tryz.prog 156 RS := IndexF.of rfl (n := 8) fun _ _ _ _ h => f156.enter h
theorem contains108 : ContainsF Tryz.prog 108 Rd.int := ContainsF.of index147 fun _ _ _ _ h => f108.enter h
theorem contains125 : ContainsF Tryz.prog 125 RS := ContainsF.of index156 fun _ _ _ _ h => f125.enter h

/-- All numbers are from -m to m. -/
def allUp (m : Int) (xs : List Int) : Bool := xs.all (inR (-m) m)

theorem fn85 {H : Heap} {Q : Post} {bs : List Nat} {v : Value} {xs : List Int} {m : Int} (hm : I64 (-m)) (hr : RS.rel H bs [v] xs) (h : ∀ H', H.Le H' → Q (.bool (allUp m xs)) H') : Runs Tryz.prog 85 #[v, .int .i64 m] H Q := by
  refine f85.enter ?_
  unfold f85.w
  refine Wi.box1 rfl fun H1 l1 n1 k1 => Wi.call (contains108 _ _ _ _ _ (fun x => !inR (-m) m x) _ (Rd.le _ hr l1) ?_ fun H2 l2 => ?_)
  · intro H' bs u x K l hr hK
    obtain ⟨_, hu, _⟩ := hr
    simp only [List.cons.injEq, and_true] at hu
    subst hu
    exact Wi.callV (f117.enter (Wi.get (l.at k1 (by omega)) rfl (Wi.call (fn118 hm (Wi.not (hK _ (.refl _)))))))
  · refine Wi.not ?_
    have e : (!xs.any fun x => !inR (-m) m x) = allUp m xs := by
      unfold allUp
      rw [← List.all_eq_not_any_not]
    rw [e]
    exact h H2 (l1.trans l2)

/-- A square of numbers, n rows of n. -/
def isSq (n : Nat) (m : List (List Int)) : Bool := decide (m.length = n) && m.all (fun r => decide (r.length = n))

theorem int_beq (a b : Nat) : ((a : Int) == (b : Int)) = decide (a = b) := by
  by_cases h : a = b
  · subst h; simp
  · have : ¬ (a : Int) = b := by omega
    simp [h, this]

theorem int_bne (a b : Nat) : ((a : Int) != (b : Int)) = !decide (a = b) := by
  rw [bne, int_beq]

theorem fn96 {H : Heap} {Q : Post} {bs : List Nat} {v : Value} {m : List (List Int)} {n : Nat} (hr : RSS.rel H bs [v] m) (h : ∀ H', H.Le H' → Q (.bool (isSq n m)) H') : Runs Tryz.prog 96 #[v, .int .i64 n] H Q := by
  refine f96.enter ?_
  unfold f96.w
  obtain ⟨p1, e1, g1⟩ := Rd.slice_val hr
  simp only [List.cons.injEq, and_true] at g1
  rw [g1]
  refine Wi.box1 rfl fun H1 l1 n1 k1 => Wi.len (Wi.get k1 rfl (Wi.eql ?_))
  rw [int_beq]
  unfold isSq at h
  cases hb : decide (m.length = n) with
  | false =>
    rw [hb] at h
    exact Wi.gF (Wi.gF (Wi.gF (Wi.gF (Wi.pickF (h H1 l1)))))
  | true =>
    rw [hb] at h
    rw [← g1]
    refine Wi.gT (Wi.gT (Wi.gT (Wi.call (contains125 _ _ _ _ _ (fun r => !decide (r.length = n)) _ (Rd.le _ hr l1) ?_ fun H2 l2 => Wi.gT (Wi.not (Wi.pickT ?_))))))
    · intro H' bs u x K l hr hK
      obtain ⟨p2, e2, g2⟩ := Rd.slice_val hr
      simp only [List.cons.injEq, and_true] at g2
      subst g2
      refine Wi.callV (f126.enter (Wi.len (Wi.get (l.at k1 (by omega)) rfl (Wi.neq ?_))))
      rw [int_bne]
      exact hK _ (.refl _)
    · have e : (!m.any fun r => !decide (r.length = n)) = m.all (fun r => decide (r.length = n)) := by rw [← List.all_eq_not_any_not]
      rw [e]
      have := h H2 (l1.trans l2)
      simpa using this

end Go.Proofs.YtdchibdcfdbcpaaGreat

/-! Fractions: the greatest common divisor, tests, lowest terms. No condition. -/
namespace Go.Proofs.YtdchibdcfdbcpaaGreat
open Go.Ab

/- loop.example/g01343/impl.size -/
def f146.w (Q : Post) (n_0 : Value) (H : Heap) : Prop :=
  W.un .neg n_0 H fun v1 H =>
  W.max2 n_0 v1 H fun v2 H =>
  Q v2 H
theorem f146.enter {Q : Post} {n_0 : Value} {H : Heap} (h : f146.w Q n_0 H) : Runs Tryz.prog 146 #[n_0] H Q :=
  fn_enter (ann := []) (by kernel_rfl) Tryz.func146 rfl (by kernel_rfl) h (by kernel_rfl)

/- loop.example/g01343/impl.common -/
def f111.l1 (Q : Post) (I1 : St [0, 1] → Heap → Prop) (a_0' : Value) (b_1' : Value) (H : Heap) : Prop :=
  W.bin .neq b_1' (.int .i64 0) H fun v3 H =>
  W.cond v3 H
  (fun H => W.bin .rem a_0' b_1' H fun v4 H =>
   I1 (b_1', v4, ()) H)
  (fun H => Q a_0' H)
def f111.w (Q : Post) (a_0 : Value) (b_1 : Value) (H : Heap) : Prop :=
  W.call Tryz.prog (.func (.func 146) #[] #[]) #[a_0] H fun v1 H =>
  W.call Tryz.prog (.func (.func 146) #[] #[]) #[b_1] H fun v2 H =>
  W.loop (S := St [0, 1]) (fun I1 s H => f111.l1 Q I1 s.1 s.2.1 H) (v1, v2, ()) H
theorem f111.enter {Q : Post} {a_0 : Value} {b_1 : Value} {H : Heap} (h : f111.w Q a_0 b_1 H) : Runs Tryz.prog 111 #[a_0, b_1] H Q :=
  fn_enter (ann := [(2, [0, 1])]) (by kernel_rfl) Tryz.func111 rfl (by kernel_rfl) h (by kernel_rfl)

/- loop.example/g01343/impl.IsFrac -/
def f112.w (Q : Post) (a_0 : Value) (H : Heap) : Prop :=
  W.box a_0 34 H fun v1 H =>
  W.fieldAddr 1 v1 H fun v2 H =>
  W.get v2 H fun v3 H =>
  W.call Tryz.prog (.func (.func 71) #[] #[]) #[v3, (.int .i64 1), (.int .i64 1000000000)] H fun v4 H =>
  W.guarded v4 true (fun H k => W.fieldAddr 0 v1 H k) H fun v5 H =>
  W.guarded v4 true (fun H k => W.get v5 H k) H fun v6 H =>
  W.guarded v4 true (fun H k => W.call Tryz.prog (.func (.func 118) #[] #[]) #[v6, (.int .i64 1000000000)] H k) H fun v7 H =>
  W.pick v4 v7 (.bool false) H fun v8 H =>
  W.guarded v8 true (fun H k => W.fieldAddr 0 v1 H k) H fun v9 H =>
  W.guarded v8 true (fun H k => W.get v9 H k) H fun v10 H =>
  W.guarded v8 true (fun H k => W.fieldAddr 1 v1 H k) H fun v11 H =>
  W.guarded v8 true (fun H k => W.get v11 H k) H fun v12 H =>
  W.guarded v8 true (fun H k => W.call Tryz.prog (.func (.func 111) #[] #[]) #[v10, v12] H k) H fun v13 H =>
  W.guarded v8 true (fun H k => W.bin .eql v13 (.int .i64 1) H k) H fun v14 H =>
  W.pick v8 v14 (.bool false) H fun v15 H =>
  Q v15 H
theorem f112.enter {Q : Post} {a_0 : Value} {H : Heap} (h : f112.w Q a_0 H) : Runs Tryz.prog 112 #[a_0] H Q :=
  fn_enter (ann := []) (by kernel_rfl) Tryz.func112 rfl (by kernel_rfl) h (by kernel_rfl)

/- loop.example/g01343/impl.reduced -/
def f66.j1 (Q : Post) (num_0 : Value) (den_1 : Value) (v1 : Value) (by_6 : Value) (H : Heap) : Prop :=
  W.bin .quo num_0 by_6 H fun v5 H =>
  W.bin .quo den_1 by_6 H fun v6 H =>
  W.build [(.int .i64 0), (.int .i64 0)] [(0, 1, v5), (1, 1, v6)] H fun v7 H =>
  W.new [(.int .i64 0), (.int .i64 0)] 34 H fun v8 H =>
  W.putN 2 v8 v7 H fun _ H =>
  W.getN 2 v8 H fun v9 H =>
  W.call Tryz.prog (.func (.func 112) #[] #[]) #[v9] H fun v10 H =>
  W.un .not v10 H fun v11 H =>
  W.cond v11 H
  (fun H => W.build [(.int .i64 0), (.int .i64 0)] [] H fun v12 H =>
   W.putN 2 v1 v12 H fun _ H =>
   W.getN 2 v1 H fun v13 H => Q (.tuple #[v13, (.int .i64 3)]) H)
  (fun H => W.getN 2 v8 H fun v14 H =>
   W.putN 2 v1 v14 H fun _ H =>
   W.getN 2 v1 H fun v15 H => Q (.tuple #[v15, (.int .i64 0)]) H)
def f66.w (Q : Post) (num_0 : Value) (den_1 : Value) (H : Heap) : Prop :=
  W.new [(.int .i64 0), (.int .i64 0)] 34 H fun v1 H =>
  W.call Tryz.prog (.func (.func 111) #[] #[]) #[num_0, den_1] H fun v2 H =>
  W.bin .lss den_1 (.int .i64 0) H fun v3 H =>
  W.cond v3 H
  (fun H => W.un .neg v2 H fun v4 H =>
   f66.j1 Q num_0 den_1 v1 v4 H)
  (fun H => f66.j1 Q num_0 den_1 v1 v2 H)
theorem f66.enter {Q : Post} {num_0 : Value} {den_1 : Value} {H : Heap} (h : f66.w Q num_0 den_1 H) : Runs Tryz.prog 66 #[num_0, den_1] H Q :=
  fn_enter (ann := []) (by kernel_rfl) Tryz.func66 rfl (by kernel_rfl) h (by kernel_rfl)

/- loop.example/g01343/spec.l01Gcd -/
def f120.l1 (Q : Post) (I1 : St [0, 1] → Heap → Prop) (a_0' : Value) (b_1' : Value) (H : Heap) : Prop :=
  W.bin .neq b_1' (.int .i64 0) H fun v1 H =>
  W.cond v1 H
  (fun H => W.bin .rem a_0' b_1' H fun v2 H =>
   I1 (b_1', v2, ()) H)
  (fun H => W.un .neg a_0' H fun v3 H =>
   W.max2 a_0' v3 H fun v4 H =>
   Q v4 H)
def f120.w (Q : Post) (a_0 : Value) (b_1 : Value) (H : Heap) : Prop :=
  W.loop (S := St [0, 1]) (fun I1 s H => f120.l1 Q I1 s.1 s.2.1 H) (a_0, b_1, ()) H
theorem f120.enter {Q : Post} {a_0 : Value} {b_1 : Value} {H : Heap} (h : f120.w Q a_0 b_1 H) : Runs Tryz.prog 120 #[a_0, b_1] H Q :=
  fn_enter (ann := [(1, [0, 1])]) (by kernel_rfl) Tryz.func120 rfl (by kernel_rfl) h (by kernel_rfl)

/- loop.example/g01343/spec.l01IsFrac -/
def f119.w (Q : Post) (a_0 : Value) (most_1 : Value) (H : Heap) : Prop :=
  W.box a_0 34 H fun v1 H =>
  W.fieldAddr 1 v1 H fun v2 H =>
  W.get v2 H fun v3 H =>
  W.call Tryz.prog (.func (.func 77) #[] #[]) #[v3, (.int .i64 1), most_1] H fun v4 H =>
  W.guarded v4 true (fun H k => W.fieldAddr 0 v1 H k) H fun v5 H =>
  W.guarded v4 true (fun H k => W.get v5 H k) H fun v6 H =>
  W.guarded v4 true (fun H k => k most_1 H) H fun v7 H =>
  W.guarded v4 true (fun H k => W.un .neg v7 H k) H fun v8 H =>
  W.guarded v4 true (fun H k => k most_1 H) H fun v9 H =>
  W.guarded v4 true (fun H k => W.call Tryz.prog (.func (.func 77) #[] #[]) #[v6, v8, v9] H k) H fun v10 H =>
  W.pick v4 v10 (.bool false) H fun v11 H =>
  W.guarded v11 true (fun H k => W.fieldAddr 0 v1 H k) H fun v12 H =>
  W.guarded v11 true (fun H k => W.get v12 H k) H fun v13 H =>
  W.guarded v11 true (fun H k => W.fieldAddr 1 v1 H k) H fun v14 H =>
  W.guarded v11 true (fun H k => W.get v14 H k) H fun v15 H =>
  W.guarded v11 true (fun H k => W.call Tryz.prog (.func (.func 120) #[] #[]) #[v13, v15] H k) H fun v16 H =>
  W.guarded v11 true (fun H k => W.bin .eql v16 (.int .i64 1) H k) H fun v17 H =>
  W.pick v11 v17 (.bool false) H fun v18 H =>
  Q v18 H
theorem f119.enter {Q : Post} {a_0 : Value} {most_1 : Value} {H : Heap} (h : f119.w Q a_0 most_1 H) : Runs Tryz.prog 119 #[a_0, most_1] H Q :=
  fn_enter (ann := []) (by kernel_rfl) Tryz.func119 rfl (by kernel_rfl) h (by kernel_rfl)

/- loop.example/g01343/spec.l01Frac -/
def f89.j1 (Q : Post) (v1 : Value) (num_0' : Value) (den_1' : Value) (H : Heap) : Prop :=
  W.call Tryz.prog (.func (.func 120) #[] #[]) #[num_0', den_1'] H fun v5 H =>
  W.bin .quo num_0' v5 H fun v6 H =>
  W.bin .quo den_1' v5 H fun v7 H =>
  W.build [(.int .i64 0), (.int .i64 0)] [(0, 1, v6), (1, 1, v7)] H fun v8 H =>
  W.putN 2 v1 v8 H fun _ H =>
  W.getN 2 v1 H fun v9 H => Q v9 H
def f89.w (Q : Post) (num_0 : Value) (den_1 : Value) (H : Heap) : Prop :=
  W.new [(.int .i64 0), (.int .i64 0)] 34 H fun v1 H =>
  W.bin .lss den_1 (.int .i64 0) H fun v2 H =>
  W.cond v2 H
  (fun H => W.un .neg num_0 H fun v3 H =>
   W.un .neg den_1 H fun v4 H =>
   f89.j1 Q v1 v3 v4 H)
  (fun H => f89.j1 Q v1 num_0 den_1 H)
theorem f89.enter {Q : Post} {num_0 : Value} {den_1 : Value} {H : Heap} (h : f89.w Q num_0 den_1 H) : Runs Tryz.prog 89 #[num_0, den_1] H Q :=
  fn_enter (ann := []) (by kernel_rfl) Tryz.func89 rfl (by kernel_rfl) h (by kernel_rfl)

/- loop.example/g01343/spec.l01Told -/
def f88.w (Q : Post) (a_0 : Value) (H : Heap) : Prop :=
  W.box a_0 34 H fun v1 H =>
  W.new [(.int .i64 0), (.int .i64 0)] 34 H fun v2 H =>
  W.getN 2 v1 H fun v3 H =>
  W.call Tryz.prog (.func (.func 119) #[] #[]) #[v3, (.int .i64 1000000000)] H fun v4 H =>
  W.un .not v4 H fun v5 H =>
  W.cond v5 H
  (fun H => W.build [(.int .i64 0), (.int .i64 0)] [] H fun v6 H =>
   W.putN 2 v2 v6 H fun _ H =>
   W.getN 2 v2 H fun v7 H => Q (.tuple #[v7, (.int .i64 3)]) H)
  (fun H => W.getN 2 v1 H fun v8 H =>
   W.putN 2 v2 v8 H fun _ H =>
   W.getN 2 v2 H fun v9 H => Q (.tuple #[v9, (.int .i64 0)]) H)
theorem f88.enter {Q : Post} {a_0 : Value} {H : Heap} (h : f88.w Q a_0 H) : Runs Tryz.prog 88 #[a_0] H Q :=
  fn_enter (ann := []) (by kernel_rfl) Tryz.func88 rfl (by kernel_rfl) h (by kernel_rfl)


theorem Wi.rem {a b : Int} {H : Heap} {k : Post} (hb : b ≠ 0) (hw : I64 (a.tmod b)) (h : k (.int .i64 (a.tmod b)) H) : W.bin .rem (.int .i64 a) (.int .i64 b) H k := by
  simpa [W.bin, binEval, intEval, hb, wrap_id hw] using h
theorem Wi.quo {a b : Int} {H : Heap} {k : Post} (hb : b ≠ 0) (hw : I64 (a.tdiv b)) (h : k (.int .i64 (a.tdiv b)) H) : W.bin .quo (.int .i64 a) (.int .i64 b) H k := by
  simpa [W.bin, binEval, intEval, hb, wrap_id hw] using h

theorem Wi.max2 {a b c : Int} {κ κ' : IntKind} {H : Heap} {k : Post} (e : (if b > a then b else a) = c) (h : k (.int κ c) H) : W.max2 (.int κ a) (.int κ' b) H k := by
  subst e
  exact h

/-- A number whose opposite is a number too. -/
def B64 (a : Int) : Prop := a.natAbs < 9223372036854775808

theorem fn146 {H0 : Heap} {Q : Post} {a : Int} (ha : B64 a) (h : Q (.int .i64 a.natAbs) H0) : Runs Tryz.prog 146 #[.int .i64 a] H0 Q := by
  unfold B64 at ha
  refine f146.enter ?_
  unfold f146.w
  refine Wi.neg (by unfold I64; omega) ?_
  exact Wi.max2 (c := (a.natAbs : Int)) (by split <;> omega) h

theorem tmod_B {a b : Int} (hb : B64 b) (h : b ≠ 0) : B64 (a.tmod b) := by
  have := tmod_lt a h
  unfold B64 at *
  omega

theorem fn120 {H0 : Heap} {Q : Post} {a b : Int} (ha : B64 a) (hb : B64 b) (hQ : Q (.int .i64 (Int.gcd a b)) H0) : Runs Tryz.prog 120 #[.int .i64 a, .int .i64 b] H0 Q := by
  refine f120.enter ?_
  unfold f120.w
  refine W.loop_rule (fun s H => H = H0 ∧ ∃ c d : Int, s = (.int .i64 c, .int .i64 d, ()) ∧ B64 c ∧ B64 d ∧ Int.gcd c d = Int.gcd a b) (fun s _ => match s.2.1 with | .int _ d => d.natAbs | _ => 0) ⟨rfl, a, b, rfl, ha, hb, rfl⟩ ?_
  rintro s H ⟨rfl, c, d, rfl, hc, hd, hg⟩
  refine Wi.neqC (fun hne => Wi.tru ?_) fun heq => Wi.fls ?_
  · have hm := tmod_B (a := c) hd hne
    refine Wi.rem hne (by unfold B64 at hm; unfold I64; omega) ⟨⟨rfl, d, _, rfl, hd, hm, by rw [gcd_step]; exact hg⟩, ?_⟩
    exact tmod_lt c hne
  · subst heq
    rw [← hg] at hQ
    unfold B64 at hc
    refine Wi.neg (by unfold I64; omega) ?_
    exact Wi.max2 (c := ((Int.gcd c 0 : Nat) : Int)) (by rw [Int.gcd_zero_right]; split <;> omega) hQ

theorem fn111 {H0 : Heap} {Q : Post} {a b : Int} (ha : B64 a) (hb : B64 b) (hQ : Q (.int .i64 (Int.gcd a b)) H0) : Runs Tryz.prog 111 #[.int .i64 a, .int .i64 b] H0 Q := by
  refine f111.enter ?_
  unfold f111.w
  refine Wi.call (fn146 ha (Wi.call (fn146 hb ?_)))
  refine W.loop_rule (fun s H => H = H0 ∧ ∃ c d : Nat, s = (.int .i64 (c : Int), .int .i64 (d : Int), ()) ∧ c < 9223372036854775808 ∧ d < 9223372036854775808 ∧ Nat.gcd c d = Int.gcd a b) (fun s _ => match s.2.1 with | .int _ d => d.natAbs | _ => 0) ⟨rfl, a.natAbs, b.natAbs, rfl, ha, hb, rfl⟩ ?_
  rintro s H ⟨rfl, c, d, rfl, hc, hd, hg⟩
  refine Wi.neqC (fun hne => Wi.tru ?_) fun heq => Wi.fls ?_
  · have hd0 : 0 < d := by omega
    have e : ((c : Int).tmod d) = ((c % d : Nat) : Int) := by rw [Int.ofNat_tmod]
    have hlt := Nat.mod_lt c hd0
    refine Wi.rem hne (by rw [e]; unfold I64; omega) ?_
    rw [e]
    exact ⟨⟨rfl, d, c % d, rfl, hd, by omega, by rw [Nat.gcd_comm, ← Nat.gcd_rec, Nat.gcd_comm]; exact hg⟩, by show ((c % d : Nat) : Int).natAbs < ((d : Nat) : Int).natAbs; rw [Int.natAbs_natCast, Int.natAbs_natCast]; exact hlt⟩
  · have : d = 0 := by omega
    subst this
    rw [Nat.gcd_zero_right] at hg
    rw [hg]
    exact hQ

theorem B64_of {a m : Int} (h : -m ≤ a ∧ a ≤ m) (hm : m ≤ 9223372036854775807) : B64 a := by unfold B64; omega

theorem fn112 {H0 : Heap} {Q : Post} {a : Frac} (hQ : ∀ H', H0.Le H' → Q (.bool (isFr 1000000000 a)) H') : Runs Tryz.prog 112 #[.agg (frC a).toArray] H0 Q := by
  refine f112.enter ?_
  unfold f112.w
  refine Wl.box (Loc.start H0) fun H b h => Wi.fieldAddr0 (Wl.get h rfl (Wi.call (fn71 ?_)))
  have hQ := hQ _ h.le
  unfold isFr at hQ
  cases h1 : inR 1 1000000000 a.2 with
  | false =>
    rw [h1] at hQ
    simp only [gw]
    exact hQ
  | true =>
  rw [h1] at hQ
  simp only [gw]
  refine Wi.fieldAddr0 (Wl.get h rfl (Wi.call (fn118 (by unfold I64; omega) ?_)))
  cases h2 : inR (-1000000000) 1000000000 a.1 with
  | false =>
    rw [h2] at hQ
    simp only [gw]
    exact hQ
  | true =>
  rw [h2] at hQ
  have k1 := inR_iff.1 h1
  have k2 := inR_iff.1 h2
  simp only [gw]
  refine Wi.fieldAddr0 (Wl.get h rfl (Wi.fieldAddr0 (Wl.get h rfl (Wi.call (fn111 (B64_of k2 (by omega)) (by unfold B64; omega) (Wi.eql ?_))))))
  have e : (((Int.gcd a.1 a.2 : Nat) : Int) == 1) = decide (Int.gcd a.1 a.2 = 1) := by
    rw [Bool.eq_iff_iff]
    simp
    omega
  rw [e]
  simpa using hQ

theorem fn119 {H0 : Heap} {Q : Post} {a : Frac} (hQ : ∀ H', H0.Le H' → Q (.bool (isFr 1000000000 a)) H') : Runs Tryz.prog 119 #[.agg (frC a).toArray, .int .i64 1000000000] H0 Q := by
  refine f119.enter ?_
  unfold f119.w
  refine Wl.box (Loc.start H0) fun H b h => Wi.fieldAddr0 (Wl.get h rfl (Wi.call (fn77 ?_)))
  have hQ := hQ _ h.le
  unfold isFr at hQ
  cases h1 : inR 1 1000000000 a.2 with
  | false =>
    rw [h1] at hQ
    simp only [gw]
    exact hQ
  | true =>
  rw [h1] at hQ
  simp only [gw]
  refine Wi.fieldAddr0 (Wl.get h rfl (Wi.neg (by unfold I64; omega) (Wi.call (fn77 ?_))))
  cases h2 : inR (-1000000000) 1000000000 a.1 with
  | false =>
    rw [h2] at hQ
    simp only [gw]
    exact hQ
  | true =>
  rw [h2] at hQ
  have k1 := inR_iff.1 h1
  have k2 := inR_iff.1 h2
  simp only [gw]
  refine Wi.fieldAddr0 (Wl.get h rfl (Wi.fieldAddr0 (Wl.get h rfl (Wi.call (fn120 (B64_of k2 (by omega)) (by unfold B64; omega) (Wi.eql ?_))))))
  have e : (((Int.gcd a.1 a.2 : Nat) : Int) == 1) = decide (Int.gcd a.1 a.2 = 1) := by
    rw [Bool.eq_iff_iff]
    simp
    omega
  rw [e]
  simpa using hQ

theorem tdiv_gcd {n d : Int} (h : d ≠ 0) : (n.tdiv (Int.gcd n d) = n / (Int.gcd n d : Int)) ∧ (d.tdiv (Int.gcd n d) = d / (Int.gcd n d : Int)) :=
  ⟨Int.tdiv_eq_ediv_of_dvd (Int.gcd_dvd_left n d), Int.tdiv_eq_ediv_of_dvd (Int.gcd_dvd_right n d)⟩

theorem tdiv_B {a b : Int} (h : B64 a) : B64 (a.tdiv b) := by
  unfold B64 at *
  have := Int.natAbs_tdiv_le_natAbs a b
  omega

theorem B64.i64 {a : Int} (h : B64 a) : I64 a := by unfold B64 at h; unfold I64; omega
theorem B64.neg {a : Int} (h : B64 a) : B64 (-a) := by unfold B64 at *; omega

theorem frac_neg {n d : Int} (hd : d < 0) : frac n d = ((-n).tdiv (Int.gcd (-n) (-d)), (-d).tdiv (Int.gcd (-n) (-d))) := by
  unfold frac
  rw [if_pos hd, Int.neg_tdiv, Int.neg_tdiv, Int.neg_gcd, Int.gcd_neg, (tdiv_gcd (by omega)).1, (tdiv_gcd (by omega)).2]

theorem frac_pos' {n d : Int} (hd : 0 < d) : frac n d = (n.tdiv (Int.gcd n d), d.tdiv (Int.gcd n d)) := by
  unfold frac
  rw [if_neg (by omega), (tdiv_gcd (by omega)).1, (tdiv_gcd (by omega)).2]

theorem fn89 {H0 : Heap} {Q : Post} {n d : Int} (hn : B64 n) (hd : B64 d) (h0 : d ≠ 0) (hQ : ∀ H', H0.Le H' → Q (.agg (frC (frac n d)).toArray) H') : Runs Tryz.prog 89 #[.int .i64 n, .int .i64 d] H0 Q := by
  refine f89.enter ?_
  unfold f89.w
  refine Wl.new (Loc.start H0) fun H b h => ?_
  have key : ∀ n' d' : Int, B64 n' → B64 d' → 0 < d' → frac n d = (n'.tdiv (Int.gcd n' d'), d'.tdiv (Int.gcd n' d')) → f89.j1 Q (pt b 0) (.int .i64 n') (.int .i64 d') H := by
    intro n' d' hn' hd' hp e
    have hg := gcd_pos (n := n') (d := d') (by omega)
    unfold f89.j1
    refine Wi.call (fn120 hn' hd' (Wi.quo (by omega) (tdiv_B hn').i64 (Wi.quo (by omega) (tdiv_B hd').i64 ?_)))
    refine Wi.build (cells := frC (n'.tdiv (Int.gcd n' d'), d'.tdiv (Int.gcd n' d'))) rfl (Wl.putA h rfl rfl rfl fun H h => Wl.getA h rfl ?_)
    have := hQ _ h.le
    rw [e] at this
    exact this
  refine Wi.lssC (fun hlt => Wi.tru ?_) fun hge => Wi.fls ?_
  · exact Wi.neg hn.neg.i64 (Wi.neg hd.neg.i64 (key _ _ hn.neg hd.neg (by omega) (frac_neg hlt)))
  · exact key _ _ hn hd (by omega) (frac_pos' (by omega))

theorem fn88 {H0 : Heap} {Q : Post} {a : Frac} (hQ : ∀ H', H0.Le H' → Q (.tuple #[.agg (frC (if isFr 1000000000 a then (a, 0) else ((0, 0), 3) : Frac × Int).1).toArray, .int .i64 (if isFr 1000000000 a then (a, 0) else ((0, 0), 3) : Frac × Int).2]) H') : Runs Tryz.prog 88 #[.agg (frC a).toArray] H0 Q := by
  refine f88.enter ?_
  unfold f88.w
  refine Wl.box (Loc.start H0) fun H b h => Wl.new h fun H b2 h => Wl.getA h rfl (Wi.call (fn119 fun H l => ?_))
  have h := h.to l
  cases hf : isFr 1000000000 a with
  | false =>
    rw [hf] at hQ
    simp only [gw]
    exact Wi.build (cells := frC (0, 0)) rfl (Wl.putA h rfl rfl rfl fun H h => Wl.getA h rfl (hQ _ h.le))
  | true =>
    rw [hf] at hQ
    simp only [gw]
    exact Wl.getA h rfl (Wl.putA h rfl rfl rfl fun H h => Wl.getA h rfl (hQ _ h.le))

theorem fn66 {H0 : Heap} {Q : Post} {n d : Int} (hn : B64 n) (hd : B64 d) (h0 : d ≠ 0) (hQ : ∀ H', H0.Le H' → Q (.tuple #[.agg (frC (fracT n d).1).toArray, .int .i64 (fracT n d).2]) H') : Runs Tryz.prog 66 #[.int .i64 n, .int .i64 d] H0 Q := by
  refine f66.enter ?_
  unfold f66.w
  have hg := gcd_pos (n := n) h0
  refine Wl.new (Loc.start H0) fun H b h => Wi.call (fn111 hn hd ?_)
  have key : ∀ g : Int, g ≠ 0 → frac n d = (n.tdiv g, d.tdiv g) → f66.j1 Q (.int .i64 n) (.int .i64 d) (pt b 0) (.int .i64 g) H := by
    intro g hg e
    unfold f66.j1
    refine Wi.quo hg (tdiv_B hn).i64 (Wi.quo hg (tdiv_B hd).i64 ?_)
    refine Wi.build (cells := frC (n.tdiv g, d.tdiv g)) rfl (Wl.new h fun H b2 h => Wl.putA h rfl rfl rfl fun H h => Wl.getA h rfl (Wi.call (fn112 (a := (n.tdiv g, d.tdiv g)) fun H l => ?_)))
    have h := h.to l
    unfold fracT at hQ
    rw [e] at hQ
    cases hf : isFr 1000000000 (n.tdiv g, d.tdiv g) with
    | false =>
      rw [hf] at hQ
      simp only [gw]
      exact Wi.build (cells := frC (0, 0)) rfl (Wl.putA h rfl rfl rfl fun H h => Wl.getA h rfl (hQ _ h.le))
    | true =>
      rw [hf] at hQ
      simp only [gw]
      exact Wl.getA h rfl (Wl.putA h rfl rfl rfl fun H h => Wl.getA h rfl (hQ _ h.le))
  have hgB : B64 (Int.gcd n d) := by
    unfold B64 at *
    have := Int.gcd_le_natAbs_right n h0
    omega
  refine Wi.lssC (fun hlt => Wi.tru ?_) fun hge => Wi.fls ?_
  · refine Wi.neg hgB.neg.i64 (key _ (by omega) ?_)
    rw [frac_neg hlt, Int.neg_gcd, Int.gcd_neg, Int.neg_tdiv, Int.neg_tdiv, Int.tdiv_neg, Int.tdiv_neg]
  · exact key _ (by omega) (frac_pos' (by omega))


end Go.Proofs.YtdchibdcfdbcpaaGreat

/-! Lists of fractions in lowest terms by one denominator: the contract of allReduced. No condition. -/
namespace Go.Proofs.YtdchibdcfdbcpaaGreat
open Go.Ab

/- loop.example/g01343/impl.allReduced -/
def f65.l1 (Q : Post) (v1 : Value) (list_0 : Value) (den_1 : Value) (I1 : St [6, 13] → Heap → Prop) (out_6 : Value) (x_13 : Value) (H : Heap) : Prop :=
  W.bin .lss x_13 v1 H fun v2 H =>
  W.cond v2 H
  (fun H => W.indexAddr 1 list_0 x_13 H fun v3 H =>
   W.get v3 H fun v4 H =>
   W.call Tryz.prog (.func (.func 66) #[] #[]) #[v4, den_1] H fun v5 H =>
   W.extract 0 v5 H fun v6 H =>
   W.extract 1 v5 H fun v7 H =>
   W.new [(.int .i64 0), (.int .i64 0)] 34 H fun v8 H =>
   W.putN 2 v8 v6 H fun _ H =>
   W.bin .neq v7 (.int .i64 0) H fun v9 H =>
   W.cond v9 H
   (fun H => Q (.tuple #[(.slice none 0 0), v7]) H)
   (fun H => W.getN 2 v8 H fun v10 H =>
    W.lit 1 [(.int .i64 0), (.int .i64 0)] 34 [(0, 2, v10)] H fun v11 H =>
    W.append 2 34 out_6 v11 H fun v12 H =>
    W.bin .add x_13 (.int .i64 1) H fun v13 H =>
    I1 (v12, v13, ()) H))
  (fun H => Q (.tuple #[out_6, (.int .i64 0)]) H)
def f65.w (Q : Post) (list_0 : Value) (den_1 : Value) (H : Heap) : Prop :=
  W.len list_0 H fun v1 H =>
  W.loop (S := St [6, 13]) (fun I1 s H => f65.l1 Q v1 list_0 den_1 I1 s.1 s.2.1 H) ((.slice none 0 0), (.int .i64 0), ()) H
theorem f65.enter {Q : Post} {list_0 : Value} {den_1 : Value} {H : Heap} (h : f65.w Q list_0 den_1 H) : Runs Tryz.prog 65 #[list_0, den_1] H Q :=
  fn_enter (ann := [(3, [6, 13])]) (by kernel_rfl) Tryz.func65 rfl (by kernel_rfl) h (by kernel_rfl)


theorem fracT_i64 (n d : Int) : I64 (fracT n d).1.1 ∧ I64 (fracT n d).1.2 := by
  unfold fracT
  split
  · rename_i h
    have := isFr_iff.1 h
    simp only
    constructor <;> (unfold I64; omega)
  · constructor <;> (unfold I64; decide)

theorem fracT_code (n d : Int) : (fracT n d).2 = 0 ∨ (fracT n d).2 = 3 := by
  unfold fracT
  split
  · exact .inl rfl
  · exact .inr rfl

/-- The fractions of numbers by one denominator, if all are within the limits. -/
def frAll (l : List Int) (d : Int) : List Frac × Int := if l.all fun n => decide ((fracT n d).2 = 0) then (l.map fun n => (fracT n d).1, 0) else ([], 3)

theorem frAll_bad {l : List Int} {d : Int} {i : Nat} (hi : i < l.length) (h : (fracT l[i] d).2 ≠ 0) : frAll l d = ([], 3) ∧ (fracT l[i] d).2 = 3 := by
  refine ⟨?_, (fracT_code _ _).resolve_left h⟩
  unfold frAll
  rw [if_neg]
  intro g
  have := List.all_eq_true.1 g _ (List.getElem_mem hi)
  exact h (of_decide_eq_true this)

theorem frAll_ok {l : List Int} {d : Int} (h : ∀ i (hi : i < l.length), (fracT l[i] d).2 = 0) : frAll l d = (l.map fun n => (fracT n d).1, 0) := by
  unfold frAll
  rw [if_pos]
  refine List.all_eq_true.2 fun x hx => ?_
  obtain ⟨i, hi, rfl⟩ := List.mem_iff_getElem.1 hx
  exact decide_eq_true (h i hi)

theorem frAll_len (l : List Int) (d : Int) : (frAll l d).1.length ≤ l.length := by
  unfold frAll
  split <;> simp

theorem fnG65 {H0 : Heap} {Q : Post} {v : Value} {l : List Int} {d : Int} (hr : Has RS H0 [v] l) (hB : ∀ n ∈ l, B64 n) (hd : B64 d) (h0 : d ≠ 0) (hl : l.length ≤ 1048576)
    (hQ : ∀ H' u, FreshG RFrac 34 H0 u (frAll l d).1 H' → Q (.tuple #[u, .int .i64 (frAll l d).2]) H') : Runs Tryz.prog 65 #[v, .int .i64 d] H0 Q := by
  refine f65.enter (Wl.lenH hr ?_)
  have h := ((Loc.start H0).lent hr).nilG RFrac 34
  refine W.for_rule l.length (fun i s H => ∃ u, s = (u, .int .i64 (i : Nat), ()) ∧ Ab.Loc H0 [.grow RFrac 34 u ((l.take i).map fun n => (fracT n d).1), .lent RS [v] l] H ∧ ∀ j (hj : j < l.length), j < i → (fracT l[j] d).2 = 0) ⟨_, rfl, h, fun j _ hj => by omega⟩ ?_
  rintro i s H J hi ⟨u, rfl, h, hok⟩ hJ
  refine Wi.lssC (fun hlt => Wi.tru ?_) fun hge => Wi.fls ?_
  · have hix : i < l.length := by omega
    refine Wl.atInt h hix fun _ => Wi.call (fn66 (hB _ (List.getElem_mem hix)) hd h0 fun H l1 => ?_)
    have h := h.to l1
    simp only [g11, g12]
    refine Wl.new h fun H b h => Wl.putA (vs := frC _) h rfl rfl rfl fun H h => Wi.neqC (fun hne => Wi.tru ?_) fun he => Wi.fls (Wl.getA h rfl ?_)
    · obtain ⟨e1, e2⟩ := frAll_bad hix hne
      have := hQ H (.slice none 0 0) (by rw [e1]; exact (h.nilG RFrac 34).retGG (i := 0) rfl)
      rw [e1] at this
      rw [e2]
      exact this
    · refine Wl.pushP (r := RFrac) (x := (fracT l[i] d).1) rfl rfl rfl (frac_rel (fracT_i64 _ _)) h.tl (by simp; omega) fun H u' h => Wi.add (by unfold I64; omega) (hJ _ _ hix ⟨u', rfl, ?_, fun j hj hji => ?_⟩)
      · rw [List.take_succ_eq_append_getElem hix, List.map_append]
        exact h
      · by_cases e : j = i
        · subst e; exact he
        · exact hok j hj (by omega)
  · have : i = l.length := by omega
    subst this
    rw [List.take_length] at h
    have e := frAll_ok fun j hj => hok j hj hj
    have := hQ H u (by rw [e]; exact h.retGG (i := 0) rfl)
    rw [e] at this
    exact this

theorem fn65 {H0 : Heap} {Q : Post} {v : Value} {l : List Int} {d : Int} (hr : Has RS H0 [v] l) (hB : ∀ n ∈ l, B64 n) (hd : B64 d) (h0 : d ≠ 0) (hl : l.length ≤ 1048576)
    (hQ : ∀ H' u, Fresh RFS H0 [u] (frAll l d).1 H' → Q (.tuple #[u, .int .i64 (frAll l d).2]) H') : Runs Tryz.prog 65 #[v, .int .i64 d] H0 Q :=
  fnG65 hr hB hd h0 hl fun _ _ f => hQ _ _ f.fresh

end Go.Proofs.YtdchibdcfdbcpaaGreat

/-! The laws' helpers for programs. No condition. -/
namespace Go.Proofs.YtdchibdcfdbcpaaGreat
open Go.Ab



abbrev Prg := List (List Int) × List Int × List (List Int) × List Int
abbrev RPrg : Rd Prg := Rd.pair RSS (Rd.pair RS (Rd.pair RSS RS))

abbrev wPrg := szp wSS (szp (List.length (α := Int)) (szp wSS (List.length (α := Int))))

theorem hasPrg {H : Heap} {cs : List Value} {p : Prg} (h : Has RPrg H cs p) : ∃ u1 u2 u3 u4, cs = [u1, u2, u3, u4] ∧ Has RSS H [u1] p.1 ∧ Has RS H [u2] p.2.1 ∧ Has RSS H [u3] p.2.2.1 ∧ Has RS H [u4] p.2.2.2 := by
  obtain ⟨bs, b1, b2, c1, c2, hb, rfl, h1, b3, b4, c3, c4, hb2, rfl, h3, b5, b6, c5, c6, hb3, rfl, h5, h6⟩ := h
  obtain ⟨u1, rfl⟩ := List.length_eq_one_iff.1 (RSS.len h1)
  obtain ⟨u2, rfl⟩ := List.length_eq_one_iff.1 (RS.len h3)
  obtain ⟨u3, rfl⟩ := List.length_eq_one_iff.1 (RSS.len h5)
  obtain ⟨u4, rfl⟩ := List.length_eq_one_iff.1 (RS.len h6)
  exact ⟨u1, u2, u3, u4, rfl, ⟨_, h1⟩, ⟨_, h3⟩, ⟨_, h5⟩, ⟨_, h6⟩⟩

end Go.Proofs.YtdchibdcfdbcpaaGreat

/-! Contracts of slices.Grow and slices.Concat, rows. No condition. -/
namespace Go.Proofs.YtdchibdcfdbcpaaGreat
open Go.Ab

/- slices.Grow[[][]int64,[]int64] -/
def f115.j1 (Q : Post) (s_0' : Value) (H : Heap) : Prop :=
  Q s_0' H
def f115.w (Q : Post) (s_0 : Value) (n_1 : Value) (H : Heap) : Prop :=
  W.bin .lss n_1 (.int .i64 0) H fun v1 H =>
  W.cond v1 H
  (fun H => W.no H)
  (fun H => W.cap s_0 H fun v2 H =>
   W.len s_0 H fun v3 H =>
   W.bin .sub v2 v3 H fun v4 H =>
   W.bin .sub n_1 v4 H fun v5 H =>
   W.bin .gtr v5 (.int .i64 0) H fun v6 H =>
   W.cond v6 H
   (fun H => W.cap s_0 H fun v7 H =>
    W.slice 1 s_0 none (some v7) H fun v8 H =>
    W.appendZ [(.slice none 0 0)] 25 v8 v5 H fun v9 H =>
    W.len s_0 H fun v10 H =>
    W.slice 1 v9 none (some v10) H fun v11 H =>
    f115.j1 Q v11 H)
   (fun H => f115.j1 Q s_0 H))
theorem f115.enter {Q : Post} {s_0 : Value} {n_1 : Value} {H : Heap} (h : f115.w Q s_0 n_1 H) : Runs Tryz.prog 115 #[s_0, n_1] H Q :=
  fn_enter (ann := []) (by kernel_rfl) Tryz.func115 rfl (by kernel_rfl) h (by kernel_rfl)

/- slices.Concat[[][]int64,[]int64] -/
def f82.l2 (Q : Post) (v10 : Value) (slices_0 : Value) (I2 : St [6, 27] → Heap → Prop) (newslice_6 : Value) (x_27 : Value) (H : Heap) : Prop :=
  W.bin .lss x_27 v10 H fun v11 H =>
  W.cond v11 H
  (fun H => W.indexAddr 1 slices_0 x_27 H fun v12 H =>
   W.get v12 H fun v13 H =>
   W.append 1 25 newslice_6 v13 H fun v14 H =>
   W.bin .add x_27 (.int .i64 1) H fun v15 H =>
   I2 (v14, v15, ()) H)
  (fun H => Q newslice_6 H)
def f82.l1 (Q : Post) (v1 : Value) (slices_0 : Value) (I1 : St [3, 11] → Heap → Prop) (size_3 : Value) (x_11 : Value) (H : Heap) : Prop :=
  W.bin .lss x_11 v1 H fun v2 H =>
  W.cond v2 H
  (fun H => W.indexAddr 1 slices_0 x_11 H fun v3 H =>
   W.get v3 H fun v4 H =>
   W.len v4 H fun v5 H =>
   W.bin .add size_3 v5 H fun v6 H =>
   W.bin .lss v6 (.int .i64 0) H fun v7 H =>
   W.cond v7 H
   (fun H => W.no H)
   (fun H => W.bin .add x_11 (.int .i64 1) H fun v8 H =>
    I1 (v6, v8, ()) H))
  (fun H => W.call Tryz.prog (.func (.func 115) #[] #[]) #[(.slice none 0 0), size_3] H fun v9 H =>
   W.len slices_0 H fun v10 H =>
   W.loop (S := St [6, 27]) (fun I2 s H => f82.l2 Q v10 slices_0 I2 s.1 s.2.1 H) (v9, (.int .i64 0), ()) H)
def f82.w (Q : Post) (slices_0 : Value) (H : Heap) : Prop :=
  W.len slices_0 H fun v1 H =>
  W.loop (S := St [3, 11]) (fun I1 s H => f82.l1 Q v1 slices_0 I1 s.1 s.2.1 H) ((.int .i64 0), (.int .i64 0), ()) H
theorem f82.enter {Q : Post} {slices_0 : Value} {H : Heap} (h : f82.w Q slices_0 H) : Runs Tryz.prog 82 #[slices_0] H Q :=
  fn_enter (ann := [(3, [3, 11]), (11, [6, 27])]) (by kernel_rfl) Tryz.func82 rfl (by kernel_rfl) h (by kernel_rfl)


theorem grow115 : GrowF Tryz.prog 115 [.slice none 0 0] 1 25 := fun _ _ _ _ h => f115.enter h
theorem concat82 : ConcatF Tryz.prog 82 RS 25 := fun _ _ _ _ h hl hQ =>
  f82.enter (concat_ok (r := RS) (n1 := 3) (n2 := 11) (n3 := 6) (n4 := 27) grow115 rfl rfl h hl hQ)

end Go.Proofs.YtdchibdcfdbcpaaGreat

/-! The contract of the program's allPlaces. No condition. -/
namespace Go.Proofs.YtdchibdcfdbcpaaGreat
open Go.Ab

/- loop.example/g01343/impl.allPlaces -/
def f50.l2 (Q : Post) (v3 : Value) (is_1 : Value) (x_9 : Value) (I1 : St [9] → Heap → Prop) (I2 : St [14] → Heap → Prop) (x_14 : Value) (H : Heap) : Prop :=
  W.bin .lss x_14 v3 H fun v4 H =>
  W.cond v4 H
  (fun H => W.call Tryz.prog is_1 #[x_9, x_14] H fun v5 H =>
   W.un .not v5 H fun v6 H =>
   W.cond v6 H
   (fun H => Q (.bool false) H)
   (fun H => W.bin .add x_14 (.int .i64 1) H fun v7 H =>
    I2 (v7, ()) H))
  (fun H => W.bin .add x_9 (.int .i64 1) H fun v8 H =>
   I1 (v8, ()) H)
def f50.l1 (Q : Post) (v1 : Value) (m_0 : Value) (is_1 : Value) (I1 : St [9] → Heap → Prop) (x_9 : Value) (H : Heap) : Prop :=
  W.bin .lss x_9 v1 H fun v2 H =>
  W.cond v2 H
  (fun H => W.len m_0 H fun v3 H =>
   W.loop (S := St [14]) (fun I2 s H => f50.l2 Q v3 is_1 x_9 I1 I2 s.1 H) ((.int .i64 0), ()) H)
  (fun H => Q (.bool true) H)
def f50.w (Q : Post) (m_0 : Value) (is_1 : Value) (H : Heap) : Prop :=
  W.len m_0 H fun v1 H =>
  W.loop (S := St [9]) (fun I1 s H => f50.l1 Q v1 m_0 is_1 I1 s.1 H) ((.int .i64 0), ()) H
theorem f50.enter {Q : Post} {m_0 : Value} {is_1 : Value} {H : Heap} (h : f50.w Q m_0 is_1 H) : Runs Tryz.prog 50 #[m_0, is_1] H Q :=
  fn_enter (ann := [(2, [9]), (5, [14])]) (by kernel_rfl) Tryz.func50 rfl (by kernel_rfl) h (by kernel_rfl)


/-- A function value of two numbers that tells whether something holds. -/
def Pred2F (fv : Value) (H : Heap) (n : Nat) (p : Nat → Nat → Bool) : Prop :=
  ∀ (H' : Heap) (i k : Nat) (K : Post), H.Le H' → i < n → k < n → (∀ H2, H'.Le H2 → K (.bool (p i k)) H2) → W.call Tryz.prog fv #[.int .i64 i, .int .i64 k] H' K

theorem fn50 {α : Type} {r : Rd α} {H0 : Heap} {Q : Post} {v fv : Value} {m : List α} {p : Nat → Nat → Bool} (hr : Has (Rd.slice r) H0 [v] m) (hp : Pred2F fv H0 m.length p)
    (hQ : ∀ H', H0.Le H' → Q (.bool (allN m.length fun i => allN m.length (p i))) H') : Runs Tryz.prog 50 #[v, fv] H0 Q := by
  have hs : m.length < 9223372036854775808 := let ⟨_, h⟩ := hr; Rd.slice_small h
  refine f50.enter (Wl.lenH hr (W.all_rule m.length (fun i => allN m.length (p i)) (fun i H1 J hi _ l hJ => ?_) fun H1 J hall l => ?_))
  · refine Wi.lssC (fun _ => Wi.tru ?_) fun h => by omega
    refine Wl.lenH (hr.le l) (W.all_rule m.length (p i) (fun k H2 J2 hk _ l2 hJ2 => ?_) fun H2 J2 hall l2 => ?_)
    · refine Wi.lssC (fun _ => Wi.tru (hp _ _ _ _ (l.trans l2) hi hk fun H3 l3 => ?_)) fun h => by omega
      cases hpk : p i k with
      | false =>
        have := hQ H3 (l.trans (l2.trans l3))
        rw [allN_false hi (allN_false hk hpk)] at this
        exact this
      | true =>
        refine Wi.not (Wi.fls (Wi.add (by unfold I64; omega) ?_))
        exact hJ2 hpk H3 l3
    · refine Wi.lssC (fun h => by omega) fun _ => Wi.fls (Wi.add (by unfold I64; omega) ?_)
      exact hJ (allN_true hall) H2 l2
  · refine Wi.lssC (fun h => by omega) fun _ => ?_
    have := hQ H1 l
    rw [allN_true hall] at this
    exact this

end Go.Proofs.YtdchibdcfdbcpaaGreat

/-! What a program is; the contract of the program's IsProgram. No condition. -/
namespace Go.Proofs.YtdchibdcfdbcpaaGreat
open Go.Ab

/- loop.example/g01343/impl.IsProgram -/
def f28.l1 (Q : Post) (v42 : Value) (v41 : Value) (v4 : Value) (v1 : Value) (I1 : St [54] → Heap → Prop) (x_54 : Value) (H : Heap) : Prop :=
  W.bin .lss x_54 v42 H fun v43 H =>
  W.cond v43 H
  (fun H => W.indexAddr 1 v41 x_54 H fun v44 H =>
   W.get v44 H fun v45 H =>
   W.len v45 H fun v46 H =>
   W.bin .neq v46 v4 H fun v47 H =>
   W.guarded v47 false (fun H k => k v45 H) H fun v48 H =>
   W.guarded v47 false (fun H k => W.call Tryz.prog (.func (.func 85) #[] #[]) #[v48, (.int .i64 20)] H k) H fun v49 H =>
   W.guarded v47 false (fun H k => W.un .not v49 H k) H fun v50 H =>
   W.pick v47 (.bool true) v50 H fun v51 H =>
   W.cond v51 H
   (fun H => Q (.bool false) H)
   (fun H => W.bin .add x_54 (.int .i64 1) H fun v52 H =>
    I1 (v52, ()) H))
  (fun H => W.fieldAddr 0 v1 H fun v53 H =>
   W.get v53 H fun v54 H =>
   W.call Tryz.prog (.func (.func 50) #[] #[]) #[v54, (.func (.func 97) #[] #[v1])] H fun v55 H =>
   Q v55 H)
def f28.w (Q : Post) (p_0 : Value) (H : Heap) : Prop :=
  W.box p_0 27 H fun v1 H =>
  W.fieldAddr 1 v1 H fun v2 H =>
  W.get v2 H fun v3 H =>
  W.len v3 H fun v4 H =>
  W.fieldAddr 3 v1 H fun v5 H =>
  W.get v5 H fun v6 H =>
  W.len v6 H fun v7 H =>
  W.bin .lss v4 (.int .i64 1) H fun v8 H =>
  W.guarded v8 false (fun H k => k v4 H) H fun v9 H =>
  W.guarded v8 false (fun H k => k v7 H) H fun v10 H =>
  W.guarded v8 false (fun H k => W.bin .add v9 v10 H k) H fun v11 H =>
  W.guarded v8 false (fun H k => W.bin .gtr v11 (.int .i64 5) H k) H fun v12 H =>
  W.pick v8 (.bool true) v12 H fun v13 H =>
  W.guarded v13 false (fun H k => W.fieldAddr 2 v1 H k) H fun v14 H =>
  W.guarded v13 false (fun H k => W.get v14 H k) H fun v15 H =>
  W.guarded v13 false (fun H k => W.len v15 H k) H fun v16 H =>
  W.guarded v13 false (fun H k => k v7 H) H fun v17 H =>
  W.guarded v13 false (fun H k => W.bin .neq v16 v17 H k) H fun v18 H =>
  W.pick v13 (.bool true) v18 H fun v19 H =>
  W.guarded v19 false (fun H k => W.fieldAddr 0 v1 H k) H fun v20 H =>
  W.guarded v19 false (fun H k => W.get v20 H k) H fun v21 H =>
  W.guarded v19 false (fun H k => k v4 H) H fun v22 H =>
  W.guarded v19 false (fun H k => W.call Tryz.prog (.func (.func 96) #[] #[]) #[v21, v22] H k) H fun v23 H =>
  W.guarded v19 false (fun H k => W.un .not v23 H k) H fun v24 H =>
  W.pick v19 (.bool true) v24 H fun v25 H =>
  W.guarded v25 false (fun H k => W.fieldAddr 1 v1 H k) H fun v26 H =>
  W.guarded v25 false (fun H k => W.get v26 H k) H fun v27 H =>
  W.guarded v25 false (fun H k => W.call Tryz.prog (.func (.func 85) #[] #[]) #[v27, (.int .i64 100)] H k) H fun v28 H =>
  W.guarded v25 false (fun H k => W.un .not v28 H k) H fun v29 H =>
  W.pick v25 (.bool true) v29 H fun v30 H =>
  W.guarded v30 false (fun H k => W.fieldAddr 3 v1 H k) H fun v31 H =>
  W.guarded v30 false (fun H k => W.get v31 H k) H fun v32 H =>
  W.guarded v30 false (fun H k => W.call Tryz.prog (.func (.func 85) #[] #[]) #[v32, (.int .i64 100)] H k) H fun v33 H =>
  W.guarded v30 false (fun H k => W.un .not v33 H k) H fun v34 H =>
  W.pick v30 (.bool true) v34 H fun v35 H =>
  W.cond v35 H
  (fun H => Q (.bool false) H)
  (fun H => W.fieldAddr 0 v1 H fun v36 H =>
   W.get v36 H fun v37 H =>
   W.fieldAddr 2 v1 H fun v38 H =>
   W.get v38 H fun v39 H =>
   W.lit 2 [(.slice none 0 0)] 24 [(0, 1, v37), (1, 1, v39)] H fun v40 H =>
   W.call Tryz.prog (.func (.func 82) #[] #[]) #[v40] H fun v41 H =>
   W.len v41 H fun v42 H =>
   W.loop (S := St [54]) (fun I1 s H => f28.l1 Q v42 v41 v4 v1 I1 s.1 H) ((.int .i64 0), ()) H)
theorem f28.enter {Q : Post} {p_0 : Value} {H : Heap} (h : f28.w Q p_0 H) : Runs Tryz.prog 28 #[p_0] H Q :=
  fn_enter (ann := [(5, [54])]) (by kernel_rfl) Tryz.func28 rfl (by kernel_rfl) h (by kernel_rfl)

/- loop.example/g01343/impl.IsProgram$1 -/
def f97.w (Q : Post) (i_0 : Value) (k_1 : Value) (x_2 : Value) (H : Heap) : Prop :=
  W.fieldAddr 0 x_2 H fun v1 H =>
  W.get v1 H fun v2 H =>
  W.indexAddr 1 v2 i_0 H fun v3 H =>
  W.get v3 H fun v4 H =>
  W.indexAddr 1 v4 k_1 H fun v5 H =>
  W.get v5 H fun v6 H =>
  W.fieldAddr 0 x_2 H fun v7 H =>
  W.get v7 H fun v8 H =>
  W.indexAddr 1 v8 k_1 H fun v9 H =>
  W.get v9 H fun v10 H =>
  W.indexAddr 1 v10 i_0 H fun v11 H =>
  W.get v11 H fun v12 H =>
  W.bin .eql v6 v12 H fun v13 H =>
  Q v13 H
theorem f97.enter {Q : Post} {i_0 : Value} {k_1 : Value} {x_2 : Value} {H : Heap} (h : f97.w Q i_0 k_1 x_2 H) : Runs Tryz.prog 97 #[i_0, k_1, x_2] H Q :=
  fn_enter (ann := []) (by kernel_rfl) Tryz.func97 rfl (by kernel_rfl) h (by kernel_rfl)


/-- A quadratic program. -/
structure IsPrg (p : Prg) : Prop where
  n1 : 1 ≤ p.2.1.length
  nm : p.2.1.length + p.2.2.2.length ≤ 5
  dl : p.1.length = p.2.1.length
  al : p.2.2.1.length = p.2.2.2.length
  d : ∀ r ∈ p.1, r.length = p.2.1.length ∧ ∀ x ∈ r, -20 ≤ x ∧ x ≤ 20
  c : ∀ x ∈ p.2.1, -100 ≤ x ∧ x ≤ 100
  b : ∀ x ∈ p.2.2.2, -100 ≤ x ∧ x ≤ 100
  a : ∀ r ∈ p.2.2.1, r.length = p.2.1.length ∧ ∀ x ∈ r, -20 ≤ x ∧ x ≤ 20
  sym : ∀ i k (hi : i < p.1.length) (hk : k < p.1.length) (h1 : k < p.1[i].length) (h2 : i < p.1[k].length), p.1[i][k] = p.1[k][i]

theorem allUp_iff {m : Int} {xs : List Int} : allUp m xs = true ↔ ∀ x ∈ xs, -m ≤ x ∧ x ≤ m := by
  simp [allUp, inR, List.all_eq_true]

theorem isSq_iff {n : Nat} {m : List (List Int)} : isSq n m = true ↔ m.length = n ∧ ∀ r ∈ m, r.length = n := by
  simp [isSq, List.all_eq_true]

theorem fn28 {H0 : Heap} {Q : Post} {cs : List Value} {p : Prg} (hr : Has RPrg H0 cs p) (hw : wPrg p ≤ 1048576) (hQ : ∀ H' b, H0.Le H' → (b = true ↔ IsPrg p) → Q (.bool b) H') : Runs Tryz.prog 28 #[.agg cs.toArray] H0 Q := by
  obtain ⟨u1, u2, u3, u4, rfl, r1, r2, r3, r4⟩ := hasPrg hr
  simp only [szp, wl] at hw
  have hF : ∀ H', H0.Le H' → ¬ IsPrg p → Q (.bool false) H' := fun H' l h => hQ H' _ l ⟨fun e => Bool.noConfusion e, fun g => absurd g h⟩
  refine f28.enter ?_
  unfold f28.w
  have h := ((((Loc.start H0).lent r1).lent r2).lent r3).lent r4
  refine Wl.box h fun H b h => Wi.fieldAddr0 (Wl.get h rfl (Wl.len h (Wi.fieldAddr0 (Wl.get h rfl (Wl.len h (Wi.lssC (fun hlt => ?_) fun h1 => ?_))))))
  · exact hF _ h.le fun g => by have := g.n1; omega
  simp only [g4]
  refine Wi.add (by unfold I64; omega) (Wi.gtrC (fun hgt => ?_) fun h2 => ?_)
  · exact hF _ h.le fun g => by have := g.nm; omega
  simp only [g4, g6]
  refine Wi.fieldAddr0 (Wl.get h rfl (Wl.len h (Wi.neqC (fun hne => ?_) fun h3 => ?_)))
  · exact hF _ h.le fun g => by have := g.al; omega
  simp only [g4, g6]
  obtain ⟨bs1, q1⟩ := h.rd (cs := [u1])
  refine Wi.fieldAddr0 (Wl.get h rfl (Wi.call (fn96 q1 fun H l => ?_)))
  have h := h.to l
  cases hsq : isSq p.2.1.length p.1 with
  | false => exact hF _ h.le fun g => by rw [isSq_iff.2 ⟨g.dl, fun r hr => (g.d r hr).1⟩] at hsq; cases hsq
  | true =>
  simp only [g4, g6, g9]
  obtain ⟨bs2, q2⟩ := h.rd (cs := [u2])
  refine Wi.fieldAddr0 (Wl.get h rfl (Wi.call (fn85 (by unfold I64; omega) q2 fun H l => ?_)))
  have h := h.to l
  cases hc : allUp 100 p.2.1 with
  | false => exact hF _ h.le fun g => by rw [allUp_iff.2 g.c] at hc; cases hc
  | true =>
  simp only [g4, g6, g9]
  obtain ⟨bs4, q4⟩ := h.rd (cs := [u4])
  refine Wi.fieldAddr0 (Wl.get h rfl (Wi.call (fn85 (by unfold I64; omega) q4 fun H l => ?_)))
  have h := h.to l
  cases hb : allUp 100 p.2.2.2 with
  | false => exact hF _ h.le fun g => by rw [allUp_iff.2 g.b] at hb; cases hb
  | true =>
  simp only [g4, g6, g8, g9]
  obtain ⟨sq1, sq2⟩ := isSq_iff.1 hsq
  have hc := allUp_iff.1 hc
  have hb := allUp_iff.1 hb
  -- the rows of both
  refine Wi.fieldAddr0 (Wl.get h rfl (Wi.fieldAddr0 (Wl.get h rfl ?_)))
  obtain ⟨bs1, q1⟩ := h.rd (cs := [u1])
  obtain ⟨bs3, q3⟩ := h.rd (cs := [u3])
  have c1 := RSS.cell q1
  have c3 := RSS.cell q3
  refine Wi.lit (cells := [u1, u3]) ?_ fun H1 l1 n1 k1 => ?_
  · obtain ⟨a1, e1, g1⟩ := Rd.slice_val q1
    obtain ⟨a3, e3, g3⟩ := Rd.slice_val q3
    simp only [List.cons.injEq, and_true] at g1 g3
    subst g1 g3
    rfl
  have h := h.to l1
  have hv : Has (Rd.slice RSS) H1 [.slice (some (adr _ 0)) 2 (2 * 2)] [p.1, p.2.2.1] := ⟨_, .inr ⟨_, 0, _, _, fun i => if i = 0 then bs1 else bs3, rfl, rfl, ⟨by omega, k1, by simp, by simp, by simp [Rd.slice], fun i hi => by
    match i, hi with
    | 0, _ => exact Rd.le _ q1 l1
    | 1, _ => exact Rd.le _ q3 l1⟩⟩⟩
  refine Wi.call (concat82 _ _ [p.1, p.2.2.1] _ hv (by simp; omega) fun H u j => ?_)
  have h := h.to j.le
  have hu := j.read
  have eF : ([p.1, p.2.2.1] : List (List (List Int))).flatten = p.1 ++ p.2.2.1 := by simp
  rw [eF] at hu
  refine Wl.lenH hu (W.all_rule (p.1 ++ p.2.2.1).length (fun i => match (p.1 ++ p.2.2.1)[i]? with | some r => decide (r.length = p.2.1.length) && allUp 20 r | none => true) (fun i H2 J hi hpr l2 hJ => ?_) fun H2 J hall l2 => ?_)
  · refine Wi.lssC (fun _ => Wi.tru (Wl.at1H rfl (hu.le l2) hi fun w hw' => Wl.lenH hw' (Wi.neqC (fun hne => ?_) fun heq => ?_))) fun h => by omega
    · refine hF _ (h.le.trans l2) fun g => ?_
      rcases List.mem_append.1 (List.getElem_mem hi) with hm | hm
      · exact hne (by rw [(g.d _ hm).1])
      · exact hne (by rw [(g.a _ hm).1])
    simp only [g4]
    obtain ⟨bw, qw⟩ := hw'
    refine Wi.call (fn85 (by unfold I64; omega) qw fun H3 l3 => ?_)
    cases hup : allUp 20 (p.1 ++ p.2.2.1)[i] with
    | false =>
      refine hF _ ((h.le.trans l2).trans l3) fun g => ?_
      have : allUp 20 (p.1 ++ p.2.2.1)[i] = true := by
        rcases List.mem_append.1 (List.getElem_mem hi) with hm | hm
        · exact allUp_iff.2 (g.d _ hm).2
        · exact allUp_iff.2 (g.a _ hm).2
      rw [this] at hup
      cases hup
    | true =>
    simp only [g4, g6, g8, g9]
    have hl : (p.1 ++ p.2.2.1).length ≤ 1048576 := by simp; omega
    refine Wi.add (by unfold I64; omega) (hJ ?_ H3 l3)
    rw [List.getElem?_eq_getElem hi]
    have : (p.1 ++ p.2.2.1)[i].length = p.2.1.length := by omega
    simp [this, hup]
  · refine Wi.lssC (fun h => by omega) fun _ => Wi.fls ?_
    have hrows : ∀ r ∈ p.1 ++ p.2.2.1, r.length = p.2.1.length ∧ ∀ x ∈ r, -20 ≤ x ∧ x ≤ 20 := fun r hr => by
      obtain ⟨i, hi, rfl⟩ := List.mem_iff_getElem.1 hr
      have := hall i hi
      rw [List.getElem?_eq_getElem hi] at this
      simp only [Bool.and_eq_true, decide_eq_true_eq] at this
      exact ⟨this.1, allUp_iff.1 this.2⟩
    have h := h.to l2
    refine Wi.fieldAddr0 (Wl.get h rfl (Wi.call (fn50 (p := fun i k => decide ((p.1.getD i []).getD k 0 = (p.1.getD k []).getD i 0)) (h.rd (cs := [u1])) ?_ fun H3 l3 => hQ _ _ (h.le.trans l3) ⟨fun e => ?_, fun g => ?_⟩)))
    · intro H3 i k K l3 hi hk hK
      have hi2 : i < p.1[k].length := by rw [sq2 _ (List.getElem_mem hk)]; omega
      have hk2 : k < p.1[i].length := by rw [sq2 _ (List.getElem_mem hi)]; omega
      have h := h.to l3
      refine Wi.callV (f97.enter (Wi.fieldAddr0 (Wl.get h rfl (Wl.at1 rfl h hi fun w1 hw1 => Wl.atIntH hw1 hk2 fun _ => Wi.fieldAddr0 (Wl.get h rfl (Wl.at1 rfl h hk fun w2 hw2 => Wl.atIntH hw2 hi2 fun _ => Wi.eql ?_))))))
      have := hK _ (.refl _)
      simp only [List.getD_eq_getElem?_getD, List.getElem?_eq_getElem hi, List.getElem?_eq_getElem hk, Option.getD_some, List.getElem?_eq_getElem hi2, List.getElem?_eq_getElem hk2] at this
      have e2 : (p.1[i][k] == p.1[k][i]) = decide (p.1[i][k] = p.1[k][i]) := rfl
      rw [e2]
      exact this
    · refine ⟨by omega, by omega, sq1, by omega, fun r hr => hrows r (List.mem_append_left _ hr), hc, hb, fun r hr => hrows r (List.mem_append_right _ hr), fun i k hi hk h1 h2 => ?_⟩
      have := allN_iff.1 (allN_iff.1 e i hi) k hk
      simpa [List.getD_eq_getElem?_getD, List.getElem?_eq_getElem hi, List.getElem?_eq_getElem hk, List.getElem?_eq_getElem h1, List.getElem?_eq_getElem h2] using this
    · refine allN_iff.2 fun i hi => allN_iff.2 fun k hk => ?_
      have hi2 : i < p.1[k].length := by rw [sq2 _ (List.getElem_mem hk)]; omega
      have hk2 : k < p.1[i].length := by rw [sq2 _ (List.getElem_mem hi)]; omega
      simpa [List.getD_eq_getElem?_getD, List.getElem?_eq_getElem hi, List.getElem?_eq_getElem hk, List.getElem?_eq_getElem hk2, List.getElem?_eq_getElem hi2] using g.sym i k hi hk hk2 hi2

end Go.Proofs.YtdchibdcfdbcpaaGreat

/-! The laws' helpers for problems. No condition. -/
namespace Go.Proofs.YtdchibdcfdbcpaaGreat
open Go.Ab



abbrev RProblem : Rd (List (List Int) × List Int) := Rd.pair RSS RS
abbrev Prob := List (List Int) × List Int
abbrev mkProblem := mkp mkSS szSS mkS
abbrev szProblem := szp szSS szS
abbrev wProblem := szp wSS (List.length (α := Int))

theorem prob_cells {H : Heap} {bs : List Nat} {cs : List Value} {p : Prob} (h : RProblem.rel H bs cs p) : ∃ u1 u2 b1 b2, cs = [u1, u2] ∧ bs = b1 ++ b2 ∧ RSS.rel H b1 [u1] p.1 ∧ RS.rel H b2 [u2] p.2 := by
  obtain ⟨b1, b2, c1, c2, hb, hc, h1, h2⟩ := h
  obtain ⟨u1, rfl⟩ := List.length_eq_one_iff.1 (RSS.len h1)
  obtain ⟨u2, rfl⟩ := List.length_eq_one_iff.1 (RS.len h2)
  exact ⟨u1, u2, b1, b2, hc, hb, h1, h2⟩

theorem hasProb {H : Heap} {cs : List Value} {p : Prob} (h : Has RProblem H cs p) : ∃ u1 u2, cs = [u1, u2] ∧ Has RSS H [u1] p.1 ∧ Has RS H [u2] p.2 := by
  obtain ⟨bs, h⟩ := h
  obtain ⟨u1, u2, b1, b2, h1, _, h3, h4⟩ := prob_cells h
  exact ⟨u1, u2, h1, ⟨_, h3⟩, ⟨_, h4⟩⟩

end Go.Proofs.YtdchibdcfdbcpaaGreat
