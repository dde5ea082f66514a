/- The laws' helpers for numbers, lists and rows: comparing, marking, weighing, copying. No condition. -/
import Derived.Test.YtbcfknboheghkaaGreatProg
import Derived.Test.YtbcfknboheghkaaGreatZabG3
import Derived.Test.YtbcfknboheghkaaGreatZabG4
import Derived.Test.YtbcfknboheghkaaGreatZabG5
namespace Go.Proofs.YtbcfknboheghkaaGreat
open Go.Ab



abbrev RS : Rd (List Int) := Rd.slice Rd.int
abbrev RSS : Rd (List (List Int)) := Rd.slice RS

abbrev mkS := mkl (fun (_ : Int) k => k) (fun _ => 1)
abbrev szS := szl (fun (_ : Int) => 1)
abbrev mkSS := mkl mkS szS
abbrev szSS := szl szS

abbrev wSS : List (List Int) → Nat := wl List.length

theorem szl_le {α : Type} {w : α → Nat} {c : Nat} (xs : List α) (h : ∀ x ∈ xs, w x ≤ c) : szl w xs ≤ xs.length * c := by
  induction xs with
  | nil => simp [szl]
  | cons x xs ih =>
    simp only [szl, List.length_cons, Nat.succ_mul]
    have := h x (by simp)
    have := ih fun y hy => h y (List.mem_cons_of_mem _ hy)
    omega

end Go.Proofs.YtbcfknboheghkaaGreat
/-! The contract of the reference's l01In. No condition. -/
namespace Go.Proofs.YtbcfknboheghkaaGreat
open Go.Ab

/- loop.example/g01343/spec.l01In -/
def f59.w (Q : Post) (n_0 : Value) (low_1 : Value) (high_2 : Value) (H : Heap) : Prop :=
  W.bin .geq n_0 low_1 H fun v1 H =>
  W.guarded v1 true (fun H k => k n_0 H) H fun v2 H =>
  W.guarded v1 true (fun H k => k high_2 H) H fun v3 H =>
  W.guarded v1 true (fun H k => W.bin .leq v2 v3 H k) H fun v4 H =>
  W.pick v1 v4 (.bool false) H fun v5 H =>
  Q v5 H
theorem f59.enter {Q : Post} {n_0 : Value} {low_1 : Value} {high_2 : Value} {H : Heap} (h : f59.w Q n_0 low_1 high_2 H) : Runs Tryz.prog 59 #[n_0, low_1, high_2] H Q :=
  fn_enter (ann := []) (by kernel_rfl) Tryz.func59 rfl (by kernel_rfl) h (by kernel_rfl)


theorem fn59 {H : Heap} {Q : Post} {n lo hi : Int} (h : Q (.bool (inR lo hi n)) H) : Runs Tryz.prog 59 #[.int .i64 n, .int .i64 lo, .int .i64 hi] H Q := by
  refine f59.enter ?_
  unfold f59.w
  refine Wi.geq ?_
  unfold inR at h
  cases hb : decide (lo ≤ n) with
  | true =>
    rw [hb] at h
    exact Wi.gT (Wi.gT (Wi.gT (Wi.leq (Wi.pickT h))))
  | false =>
    rw [hb] at h
    exact Wi.gF (Wi.gF (Wi.gF (Wi.pickF h)))

end Go.Proofs.YtbcfknboheghkaaGreat

/-! Contracts of the program's small tests of numbers, lists and rows. No condition. -/
namespace Go.Proofs.YtbcfknboheghkaaGreat
open Go.Ab

/- loop.example/g01343/impl.within -/
def f49.w (Q : Post) (n_0 : Value) (low_1 : Value) (high_2 : Value) (H : Heap) : Prop :=
  W.bin .geq n_0 low_1 H fun v1 H =>
  W.guarded v1 true (fun H k => k n_0 H) H fun v2 H =>
  W.guarded v1 true (fun H k => k high_2 H) H fun v3 H =>
  W.guarded v1 true (fun H k => W.bin .leq v2 v3 H k) H fun v4 H =>
  W.pick v1 v4 (.bool false) H fun v5 H =>
  Q v5 H
theorem f49.enter {Q : Post} {n_0 : Value} {low_1 : Value} {high_2 : Value} {H : Heap} (h : f49.w Q n_0 low_1 high_2 H) : Runs Tryz.prog 49 #[n_0, low_1, high_2] H Q :=
  fn_enter (ann := []) (by kernel_rfl) Tryz.func49 rfl (by kernel_rfl) h (by kernel_rfl)

/- loop.example/g01343/impl.upTo -/
def f124.w (Q : Post) (n_0 : Value) (most_1 : Value) (H : Heap) : Prop :=
  W.un .neg most_1 H fun v1 H =>
  W.call Tryz.prog (.func (.func 49) #[] #[]) #[n_0, v1, most_1] H fun v2 H =>
  Q v2 H
theorem f124.enter {Q : Post} {n_0 : Value} {most_1 : Value} {H : Heap} (h : f124.w Q n_0 most_1 H) : Runs Tryz.prog 124 #[n_0, most_1] H Q :=
  fn_enter (ann := []) (by kernel_rfl) Tryz.func124 rfl (by kernel_rfl) h (by kernel_rfl)

/- slices.IndexFunc[[]int64,int64] -/
def f145.l1 (Q : Post) (v1 : Value) (s_0 : Value) (f_1 : Value) (I1 : St [8] → Heap → Prop) (x_8 : Value) (H : Heap) : Prop :=
  W.bin .lss x_8 v1 H fun v2 H =>
  W.cond v2 H
  (fun H => W.indexAddr 1 s_0 x_8 H fun v3 H =>
   W.get v3 H fun v4 H =>
   W.call Tryz.prog f_1 #[v4] H fun v5 H =>
   W.cond v5 H
   (fun H => Q x_8 H)
   (fun H => W.bin .add x_8 (.int .i64 1) H fun v6 H =>
    I1 (v6, ()) H))
  (fun H => Q (.int .i64 (-1)) H)
def f145.w (Q : Post) (s_0 : Value) (f_1 : Value) (H : Heap) : Prop :=
  W.len s_0 H fun v1 H =>
  W.loop (S := St [8]) (fun I1 s H => f145.l1 Q v1 s_0 f_1 I1 s.1 H) ((.int .i64 0), ()) H
theorem f145.enter {Q : Post} {s_0 : Value} {f_1 : Value} {H : Heap} (h : f145.w Q s_0 f_1 H) : Runs Tryz.prog 145 #[s_0, f_1] H Q :=
  fn_enter (ann := [(2, [8])]) (by kernel_rfl) Tryz.func145 rfl (by kernel_rfl) h (by kernel_rfl)

/- slices.IndexFunc[[][]int64,[]int64] -/
def f153.l1 (Q : Post) (v1 : Value) (s_0 : Value) (f_1 : Value) (I1 : St [8] → Heap → Prop) (x_8 : Value) (H : Heap) : Prop :=
  W.bin .lss x_8 v1 H fun v2 H =>
  W.cond v2 H
  (fun H => W.indexAddr 1 s_0 x_8 H fun v3 H =>
   W.get v3 H fun v4 H =>
   W.call Tryz.prog f_1 #[v4] H fun v5 H =>
   W.cond v5 H
   (fun H => Q x_8 H)
   (fun H => W.bin .add x_8 (.int .i64 1) H fun v6 H =>
    I1 (v6, ()) H))
  (fun H => Q (.int .i64 (-1)) H)
def f153.w (Q : Post) (s_0 : Value) (f_1 : Value) (H : Heap) : Prop :=
  W.len s_0 H fun v1 H =>
  W.loop (S := St [8]) (fun I1 s H => f153.l1 Q v1 s_0 f_1 I1 s.1 H) ((.int .i64 0), ()) H
theorem f153.enter {Q : Post} {s_0 : Value} {f_1 : Value} {H : Heap} (h : f153.w Q s_0 f_1 H) : Runs Tryz.prog 153 #[s_0, f_1] H Q :=
  fn_enter (ann := [(2, [8])]) (by kernel_rfl) Tryz.func153 rfl (by kernel_rfl) h (by kernel_rfl)

/- slices.ContainsFunc[[]int64,int64] -/
def f118.w (Q : Post) (s_0 : Value) (f_1 : Value) (H : Heap) : Prop :=
  W.call Tryz.prog (.func (.func 145) #[] #[]) #[s_0, f_1] H fun v1 H =>
  W.bin .geq v1 (.int .i64 0) H fun v2 H =>
  Q v2 H
theorem f118.enter {Q : Post} {s_0 : Value} {f_1 : Value} {H : Heap} (h : f118.w Q s_0 f_1 H) : Runs Tryz.prog 118 #[s_0, f_1] H Q :=
  fn_enter (ann := []) (by kernel_rfl) Tryz.func118 rfl (by kernel_rfl) h (by kernel_rfl)

/- slices.ContainsFunc[[][]int64,[]int64] -/
def f131.w (Q : Post) (s_0 : Value) (f_1 : Value) (H : Heap) : Prop :=
  W.call Tryz.prog (.func (.func 153) #[] #[]) #[s_0, f_1] H fun v1 H =>
  W.bin .geq v1 (.int .i64 0) H fun v2 H =>
  Q v2 H
theorem f131.enter {Q : Post} {s_0 : Value} {f_1 : Value} {H : Heap} (h : f131.w Q s_0 f_1 H) : Runs Tryz.prog 131 #[s_0, f_1] H Q :=
  fn_enter (ann := []) (by kernel_rfl) Tryz.func131 rfl (by kernel_rfl) h (by kernel_rfl)

/- loop.example/g01343/impl.allUpTo -/
/- loop.example/g01343/impl.allUpTo$1 -/
/- loop.example/g01343/impl.isSquare -/
/- loop.example/g01343/impl.isSquare$1 -/
theorem fn49 {H : Heap} {Q : Post} {n lo hi : Int} (h : Q (.bool (inR lo hi n)) H) : Runs Tryz.prog 49 #[.int .i64 n, .int .i64 lo, .int .i64 hi] H Q := by
  refine f49.enter ?_
  unfold f49.w
  refine Wi.geq ?_
  unfold inR at h
  cases hb : decide (lo ≤ n) with
  | true =>
    rw [hb] at h
    exact Wi.gT (Wi.gT (Wi.gT (Wi.leq (Wi.pickT h))))
  | false =>
    rw [hb] at h
    exact Wi.gF (Wi.gF (Wi.gF (Wi.pickF h)))

theorem fn124 {H : Heap} {Q : Post} {n m : Int} (hm : I64 (-m)) (h : Q (.bool (inR (-m) m n)) H) : Runs Tryz.prog 124 #[.int .i64 n, .int .i64 m] H Q :=
  f124.enter (Wi.neg hm (Wi.call (fn49 h)))

theorem index145 : IndexF Tryz.prog 145 Rd.int := IndexF.of rfl (n := 8) fun _ _ _ _ h => f145.enter h
theorem index153 : IndexF Tryz.prog 153 RS := IndexF.of rfl (n := 8) fun _ _ _ _ h => f153.enter h
theorem contains118 : ContainsF Tryz.prog 118 Rd.int := ContainsF.of index145 fun _ _ _ _ h => f118.enter h
theorem contains131 : ContainsF Tryz.prog 131 RS := ContainsF.of index153 fun _ _ _ _ h => f131.enter h

/-- All numbers are from -m to m. -/
def allUp (m : Int) (xs : List Int) : Bool := xs.all (inR (-m) m)

/-- A square of numbers, n rows of n. -/
def isSq (n : Nat) (m : List (List Int)) : Bool := decide (m.length = n) && m.all (fun r => decide (r.length = n))

end Go.Proofs.YtbcfknboheghkaaGreat

/-! Fractions: the greatest common divisor, tests, lowest terms. No condition. -/
namespace Go.Proofs.YtbcfknboheghkaaGreat
open Go.Ab

/- loop.example/g01343/impl.size -/
def f109.w (Q : Post) (n_0 : Value) (H : Heap) : Prop :=
  W.un .neg n_0 H fun v1 H =>
  W.max2 n_0 v1 H fun v2 H =>
  Q v2 H
theorem f109.enter {Q : Post} {n_0 : Value} {H : Heap} (h : f109.w Q n_0 H) : Runs Tryz.prog 109 #[n_0] H Q :=
  fn_enter (ann := []) (by kernel_rfl) Tryz.func109 rfl (by kernel_rfl) h (by kernel_rfl)

/- loop.example/g01343/impl.common -/
def f123.l1 (Q : Post) (I1 : St [0, 1] → Heap → Prop) (a_0' : Value) (b_1' : Value) (H : Heap) : Prop :=
  W.bin .neq b_1' (.int .i64 0) H fun v3 H =>
  W.cond v3 H
  (fun H => W.bin .rem a_0' b_1' H fun v4 H =>
   I1 (b_1', v4, ()) H)
  (fun H => Q a_0' H)
def f123.w (Q : Post) (a_0 : Value) (b_1 : Value) (H : Heap) : Prop :=
  W.call Tryz.prog (.func (.func 109) #[] #[]) #[a_0] H fun v1 H =>
  W.call Tryz.prog (.func (.func 109) #[] #[]) #[b_1] H fun v2 H =>
  W.loop (S := St [0, 1]) (fun I1 s H => f123.l1 Q I1 s.1 s.2.1 H) (v1, v2, ()) H
theorem f123.enter {Q : Post} {a_0 : Value} {b_1 : Value} {H : Heap} (h : f123.w Q a_0 b_1 H) : Runs Tryz.prog 123 #[a_0, b_1] H Q :=
  fn_enter (ann := [(2, [0, 1])]) (by kernel_rfl) Tryz.func123 rfl (by kernel_rfl) h (by kernel_rfl)

/- loop.example/g01343/impl.IsFrac -/
def f134.w (Q : Post) (a_0 : Value) (H : Heap) : Prop :=
  W.box a_0 39 H fun v1 H =>
  W.fieldAddr 1 v1 H fun v2 H =>
  W.get v2 H fun v3 H =>
  W.call Tryz.prog (.func (.func 49) #[] #[]) #[v3, (.int .i64 1), (.int .i64 1000000000)] H fun v4 H =>
  W.guarded v4 true (fun H k => W.fieldAddr 0 v1 H k) H fun v5 H =>
  W.guarded v4 true (fun H k => W.get v5 H k) H fun v6 H =>
  W.guarded v4 true (fun H k => W.call Tryz.prog (.func (.func 124) #[] #[]) #[v6, (.int .i64 1000000000)] H k) H fun v7 H =>
  W.pick v4 v7 (.bool false) H fun v8 H =>
  W.guarded v8 true (fun H k => W.fieldAddr 0 v1 H k) H fun v9 H =>
  W.guarded v8 true (fun H k => W.get v9 H k) H fun v10 H =>
  W.guarded v8 true (fun H k => W.fieldAddr 1 v1 H k) H fun v11 H =>
  W.guarded v8 true (fun H k => W.get v11 H k) H fun v12 H =>
  W.guarded v8 true (fun H k => W.call Tryz.prog (.func (.func 123) #[] #[]) #[v10, v12] H k) H fun v13 H =>
  W.guarded v8 true (fun H k => W.bin .eql v13 (.int .i64 1) H k) H fun v14 H =>
  W.pick v8 v14 (.bool false) H fun v15 H =>
  Q v15 H
theorem f134.enter {Q : Post} {a_0 : Value} {H : Heap} (h : f134.w Q a_0 H) : Runs Tryz.prog 134 #[a_0] H Q :=
  fn_enter (ann := []) (by kernel_rfl) Tryz.func134 rfl (by kernel_rfl) h (by kernel_rfl)

/- loop.example/g01343/impl.reduced -/
def f99.j1 (Q : Post) (num_0 : Value) (den_1 : Value) (v1 : Value) (by_6 : Value) (H : Heap) : Prop :=
  W.bin .quo num_0 by_6 H fun v5 H =>
  W.bin .quo den_1 by_6 H fun v6 H =>
  W.build [(.int .i64 0), (.int .i64 0)] [(0, 1, v5), (1, 1, v6)] H fun v7 H =>
  W.new [(.int .i64 0), (.int .i64 0)] 39 H fun v8 H =>
  W.putN 2 v8 v7 H fun _ H =>
  W.getN 2 v8 H fun v9 H =>
  W.call Tryz.prog (.func (.func 134) #[] #[]) #[v9] H fun v10 H =>
  W.un .not v10 H fun v11 H =>
  W.cond v11 H
  (fun H => W.build [(.int .i64 0), (.int .i64 0)] [] H fun v12 H =>
   W.putN 2 v1 v12 H fun _ H =>
   W.getN 2 v1 H fun v13 H => Q (.tuple #[v13, (.int .i64 3)]) H)
  (fun H => W.getN 2 v8 H fun v14 H =>
   W.putN 2 v1 v14 H fun _ H =>
   W.getN 2 v1 H fun v15 H => Q (.tuple #[v15, (.int .i64 0)]) H)
def f99.w (Q : Post) (num_0 : Value) (den_1 : Value) (H : Heap) : Prop :=
  W.new [(.int .i64 0), (.int .i64 0)] 39 H fun v1 H =>
  W.call Tryz.prog (.func (.func 123) #[] #[]) #[num_0, den_1] H fun v2 H =>
  W.bin .lss den_1 (.int .i64 0) H fun v3 H =>
  W.cond v3 H
  (fun H => W.un .neg v2 H fun v4 H =>
   f99.j1 Q num_0 den_1 v1 v4 H)
  (fun H => f99.j1 Q num_0 den_1 v1 v2 H)
theorem f99.enter {Q : Post} {num_0 : Value} {den_1 : Value} {H : Heap} (h : f99.w Q num_0 den_1 H) : Runs Tryz.prog 99 #[num_0, den_1] H Q :=
  fn_enter (ann := []) (by kernel_rfl) Tryz.func99 rfl (by kernel_rfl) h (by kernel_rfl)

/- loop.example/g01343/spec.l01Gcd -/
def f136.l1 (Q : Post) (I1 : St [0, 1] → Heap → Prop) (a_0' : Value) (b_1' : Value) (H : Heap) : Prop :=
  W.bin .neq b_1' (.int .i64 0) H fun v1 H =>
  W.cond v1 H
  (fun H => W.bin .rem a_0' b_1' H fun v2 H =>
   I1 (b_1', v2, ()) H)
  (fun H => W.un .neg a_0' H fun v3 H =>
   W.max2 a_0' v3 H fun v4 H =>
   Q v4 H)
def f136.w (Q : Post) (a_0 : Value) (b_1 : Value) (H : Heap) : Prop :=
  W.loop (S := St [0, 1]) (fun I1 s H => f136.l1 Q I1 s.1 s.2.1 H) (a_0, b_1, ()) H
theorem f136.enter {Q : Post} {a_0 : Value} {b_1 : Value} {H : Heap} (h : f136.w Q a_0 b_1 H) : Runs Tryz.prog 136 #[a_0, b_1] H Q :=
  fn_enter (ann := [(1, [0, 1])]) (by kernel_rfl) Tryz.func136 rfl (by kernel_rfl) h (by kernel_rfl)

/- loop.example/g01343/spec.l01IsFrac -/
def f135.w (Q : Post) (a_0 : Value) (most_1 : Value) (H : Heap) : Prop :=
  W.box a_0 39 H fun v1 H =>
  W.fieldAddr 1 v1 H fun v2 H =>
  W.get v2 H fun v3 H =>
  W.call Tryz.prog (.func (.func 59) #[] #[]) #[v3, (.int .i64 1), most_1] H fun v4 H =>
  W.guarded v4 true (fun H k => W.fieldAddr 0 v1 H k) H fun v5 H =>
  W.guarded v4 true (fun H k => W.get v5 H k) H fun v6 H =>
  W.guarded v4 true (fun H k => k most_1 H) H fun v7 H =>
  W.guarded v4 true (fun H k => W.un .neg v7 H k) H fun v8 H =>
  W.guarded v4 true (fun H k => k most_1 H) H fun v9 H =>
  W.guarded v4 true (fun H k => W.call Tryz.prog (.func (.func 59) #[] #[]) #[v6, v8, v9] H k) H fun v10 H =>
  W.pick v4 v10 (.bool false) H fun v11 H =>
  W.guarded v11 true (fun H k => W.fieldAddr 0 v1 H k) H fun v12 H =>
  W.guarded v11 true (fun H k => W.get v12 H k) H fun v13 H =>
  W.guarded v11 true (fun H k => W.fieldAddr 1 v1 H k) H fun v14 H =>
  W.guarded v11 true (fun H k => W.get v14 H k) H fun v15 H =>
  W.guarded v11 true (fun H k => W.call Tryz.prog (.func (.func 136) #[] #[]) #[v13, v15] H k) H fun v16 H =>
  W.guarded v11 true (fun H k => W.bin .eql v16 (.int .i64 1) H k) H fun v17 H =>
  W.pick v11 v17 (.bool false) H fun v18 H =>
  Q v18 H
theorem f135.enter {Q : Post} {a_0 : Value} {most_1 : Value} {H : Heap} (h : f135.w Q a_0 most_1 H) : Runs Tryz.prog 135 #[a_0, most_1] H Q :=
  fn_enter (ann := []) (by kernel_rfl) Tryz.func135 rfl (by kernel_rfl) h (by kernel_rfl)

/- loop.example/g01343/spec.l01Frac -/
def f102.j1 (Q : Post) (v1 : Value) (num_0' : Value) (den_1' : Value) (H : Heap) : Prop :=
  W.call Tryz.prog (.func (.func 136) #[] #[]) #[num_0', den_1'] H fun v5 H =>
  W.bin .quo num_0' v5 H fun v6 H =>
  W.bin .quo den_1' v5 H fun v7 H =>
  W.build [(.int .i64 0), (.int .i64 0)] [(0, 1, v6), (1, 1, v7)] H fun v8 H =>
  W.putN 2 v1 v8 H fun _ H =>
  W.getN 2 v1 H fun v9 H => Q v9 H
def f102.w (Q : Post) (num_0 : Value) (den_1 : Value) (H : Heap) : Prop :=
  W.new [(.int .i64 0), (.int .i64 0)] 39 H fun v1 H =>
  W.bin .lss den_1 (.int .i64 0) H fun v2 H =>
  W.cond v2 H
  (fun H => W.un .neg num_0 H fun v3 H =>
   W.un .neg den_1 H fun v4 H =>
   f102.j1 Q v1 v3 v4 H)
  (fun H => f102.j1 Q v1 num_0 den_1 H)
theorem f102.enter {Q : Post} {num_0 : Value} {den_1 : Value} {H : Heap} (h : f102.w Q num_0 den_1 H) : Runs Tryz.prog 102 #[num_0, den_1] H Q :=
  fn_enter (ann := []) (by kernel_rfl) Tryz.func102 rfl (by kernel_rfl) h (by kernel_rfl)

/- loop.example/g01343/spec.l01Told -/
def f101.w (Q : Post) (a_0 : Value) (H : Heap) : Prop :=
  W.box a_0 39 H fun v1 H =>
  W.new [(.int .i64 0), (.int .i64 0)] 39 H fun v2 H =>
  W.getN 2 v1 H fun v3 H =>
  W.call Tryz.prog (.func (.func 135) #[] #[]) #[v3, (.int .i64 1000000000)] H fun v4 H =>
  W.un .not v4 H fun v5 H =>
  W.cond v5 H
  (fun H => W.build [(.int .i64 0), (.int .i64 0)] [] H fun v6 H =>
   W.putN 2 v2 v6 H fun _ H =>
   W.getN 2 v2 H fun v7 H => Q (.tuple #[v7, (.int .i64 3)]) H)
  (fun H => W.getN 2 v1 H fun v8 H =>
   W.putN 2 v2 v8 H fun _ H =>
   W.getN 2 v2 H fun v9 H => Q (.tuple #[v9, (.int .i64 0)]) H)
theorem f101.enter {Q : Post} {a_0 : Value} {H : Heap} (h : f101.w Q a_0 H) : Runs Tryz.prog 101 #[a_0] H Q :=
  fn_enter (ann := []) (by kernel_rfl) Tryz.func101 rfl (by kernel_rfl) h (by kernel_rfl)


theorem Wi.rem {a b : Int} {H : Heap} {k : Post} (hb : b ≠ 0) (hw : I64 (a.tmod b)) (h : k (.int .i64 (a.tmod b)) H) : W.bin .rem (.int .i64 a) (.int .i64 b) H k := by
  simpa [W.bin, binEval, intEval, hb, wrap_id hw] using h
theorem Wi.quo {a b : Int} {H : Heap} {k : Post} (hb : b ≠ 0) (hw : I64 (a.tdiv b)) (h : k (.int .i64 (a.tdiv b)) H) : W.bin .quo (.int .i64 a) (.int .i64 b) H k := by
  simpa [W.bin, binEval, intEval, hb, wrap_id hw] using h

theorem Wi.max2 {a b c : Int} {κ κ' : IntKind} {H : Heap} {k : Post} (e : (if b > a then b else a) = c) (h : k (.int κ c) H) : W.max2 (.int κ a) (.int κ' b) H k := by
  subst e
  exact h

/-- A number whose opposite is a number too. -/
def B64 (a : Int) : Prop := a.natAbs < 9223372036854775808

theorem fn109 {H0 : Heap} {Q : Post} {a : Int} (ha : B64 a) (h : Q (.int .i64 a.natAbs) H0) : Runs Tryz.prog 109 #[.int .i64 a] H0 Q := by
  unfold B64 at ha
  refine f109.enter ?_
  unfold f109.w
  refine Wi.neg (by unfold I64; omega) ?_
  exact Wi.max2 (c := (a.natAbs : Int)) (by split <;> omega) h

theorem tmod_B {a b : Int} (hb : B64 b) (h : b ≠ 0) : B64 (a.tmod b) := by
  have := tmod_lt a h
  unfold B64 at *
  omega

theorem fn136 {H0 : Heap} {Q : Post} {a b : Int} (ha : B64 a) (hb : B64 b) (hQ : Q (.int .i64 (Int.gcd a b)) H0) : Runs Tryz.prog 136 #[.int .i64 a, .int .i64 b] H0 Q := by
  refine f136.enter ?_
  unfold f136.w
  refine W.loop_rule (fun s H => H = H0 ∧ ∃ c d : Int, s = (.int .i64 c, .int .i64 d, ()) ∧ B64 c ∧ B64 d ∧ Int.gcd c d = Int.gcd a b) (fun s _ => match s.2.1 with | .int _ d => d.natAbs | _ => 0) ⟨rfl, a, b, rfl, ha, hb, rfl⟩ ?_
  rintro s H ⟨rfl, c, d, rfl, hc, hd, hg⟩
  refine Wi.neqC (fun hne => Wi.tru ?_) fun heq => Wi.fls ?_
  · have hm := tmod_B (a := c) hd hne
    refine Wi.rem hne (by unfold B64 at hm; unfold I64; omega) ⟨⟨rfl, d, _, rfl, hd, hm, by rw [gcd_step]; exact hg⟩, ?_⟩
    exact tmod_lt c hne
  · subst heq
    rw [← hg] at hQ
    unfold B64 at hc
    refine Wi.neg (by unfold I64; omega) ?_
    exact Wi.max2 (c := ((Int.gcd c 0 : Nat) : Int)) (by rw [Int.gcd_zero_right]; split <;> omega) hQ

theorem fn123 {H0 : Heap} {Q : Post} {a b : Int} (ha : B64 a) (hb : B64 b) (hQ : Q (.int .i64 (Int.gcd a b)) H0) : Runs Tryz.prog 123 #[.int .i64 a, .int .i64 b] H0 Q := by
  refine f123.enter ?_
  unfold f123.w
  refine Wi.call (fn109 ha (Wi.call (fn109 hb ?_)))
  refine W.loop_rule (fun s H => H = H0 ∧ ∃ c d : Nat, s = (.int .i64 (c : Int), .int .i64 (d : Int), ()) ∧ c < 9223372036854775808 ∧ d < 9223372036854775808 ∧ Nat.gcd c d = Int.gcd a b) (fun s _ => match s.2.1 with | .int _ d => d.natAbs | _ => 0) ⟨rfl, a.natAbs, b.natAbs, rfl, ha, hb, rfl⟩ ?_
  rintro s H ⟨rfl, c, d, rfl, hc, hd, hg⟩
  refine Wi.neqC (fun hne => Wi.tru ?_) fun heq => Wi.fls ?_
  · have hd0 : 0 < d := by omega
    have e : ((c : Int).tmod d) = ((c % d : Nat) : Int) := by rw [Int.ofNat_tmod]
    have hlt := Nat.mod_lt c hd0
    refine Wi.rem hne (by rw [e]; unfold I64; omega) ?_
    rw [e]
    exact ⟨⟨rfl, d, c % d, rfl, hd, by omega, by rw [Nat.gcd_comm, ← Nat.gcd_rec, Nat.gcd_comm]; exact hg⟩, by show ((c % d : Nat) : Int).natAbs < ((d : Nat) : Int).natAbs; rw [Int.natAbs_natCast, Int.natAbs_natCast]; exact hlt⟩
  · have : d = 0 := by omega
    subst this
    rw [Nat.gcd_zero_right] at hg
    rw [hg]
    exact hQ

theorem B64_of {a m : Int} (h : -m ≤ a ∧ a ≤ m) (hm : m ≤ 9223372036854775807) : B64 a := by unfold B64; omega

theorem fn134 {H0 : Heap} {Q : Post} {a : Frac} (hQ : ∀ H', H0.Le H' → Q (.bool (isFr 1000000000 a)) H') : Runs Tryz.prog 134 #[.agg (frC a).toArray] H0 Q := by
  refine f134.enter ?_
  unfold f134.w
  refine Wl.box (Loc.start H0) fun H b h => Wi.fieldAddr0 (Wl.get h rfl (Wi.call (fn49 ?_)))
  have hQ := hQ _ h.le
  unfold isFr at hQ
  cases h1 : inR 1 1000000000 a.2 with
  | false =>
    rw [h1] at hQ
    simp only [gw]
    exact hQ
  | true =>
  rw [h1] at hQ
  simp only [gw]
  refine Wi.fieldAddr0 (Wl.get h rfl (Wi.call (fn124 (by unfold I64; omega) ?_)))
  cases h2 : inR (-1000000000) 1000000000 a.1 with
  | false =>
    rw [h2] at hQ
    simp only [gw]
    exact hQ
  | true =>
  rw [h2] at hQ
  have k1 := inR_iff.1 h1
  have k2 := inR_iff.1 h2
  simp only [gw]
  refine Wi.fieldAddr0 (Wl.get h rfl (Wi.fieldAddr0 (Wl.get h rfl (Wi.call (fn123 (B64_of k2 (by omega)) (by unfold B64; omega) (Wi.eql ?_))))))
  have e : (((Int.gcd a.1 a.2 : Nat) : Int) == 1) = decide (Int.gcd a.1 a.2 = 1) := by
    rw [Bool.eq_iff_iff]
    simp
    omega
  rw [e]
  simpa using hQ

theorem fn135 {H0 : Heap} {Q : Post} {a : Frac} (hQ : ∀ H', H0.Le H' → Q (.bool (isFr 1000000000 a)) H') : Runs Tryz.prog 135 #[.agg (frC a).toArray, .int .i64 1000000000] H0 Q := by
  refine f135.enter ?_
  unfold f135.w
  refine Wl.box (Loc.start H0) fun H b h => Wi.fieldAddr0 (Wl.get h rfl (Wi.call (fn59 ?_)))
  have hQ := hQ _ h.le
  unfold isFr at hQ
  cases h1 : inR 1 1000000000 a.2 with
  | false =>
    rw [h1] at hQ
    simp only [gw]
    exact hQ
  | true =>
  rw [h1] at hQ
  simp only [gw]
  refine Wi.fieldAddr0 (Wl.get h rfl (Wi.neg (by unfold I64; omega) (Wi.call (fn59 ?_))))
  cases h2 : inR (-1000000000) 1000000000 a.1 with
  | false =>
    rw [h2] at hQ
    simp only [gw]
    exact hQ
  | true =>
  rw [h2] at hQ
  have k1 := inR_iff.1 h1
  have k2 := inR_iff.1 h2
  simp only [gw]
  refine Wi.fieldAddr0 (Wl.get h rfl (Wi.fieldAddr0 (Wl.get h rfl (Wi.call (fn136 (B64_of k2 (by omega)) (by unfold B64; omega) (Wi.eql ?_))))))
  have e : (((Int.gcd a.1 a.2 : Nat) : Int) == 1) = decide (Int.gcd a.1 a.2 = 1) := by
    rw [Bool.eq_iff_iff]
    simp
    omega
  rw [e]
  simpa using hQ

theorem tdiv_gcd {n d : Int} (h : d ≠ 0) : (n.tdiv (Int.gcd n d) = n / (Int.gcd n d : Int)) ∧ (d.tdiv (Int.gcd n d) = d / (Int.gcd n d : Int)) :=
  ⟨Int.tdiv_eq_ediv_of_dvd (Int.gcd_dvd_left n d), Int.tdiv_eq_ediv_of_dvd (Int.gcd_dvd_right n d)⟩

theorem tdiv_B {a b : Int} (h : B64 a) : B64 (a.tdiv b) := by
  unfold B64 at *
  have := Int.natAbs_tdiv_le_natAbs a b
  omega

theorem B64.i64 {a : Int} (h : B64 a) : I64 a := by unfold B64 at h; unfold I64; omega
theorem B64.neg {a : Int} (h : B64 a) : B64 (-a) := by unfold B64 at *; omega

theorem frac_neg {n d : Int} (hd : d < 0) : frac n d = ((-n).tdiv (Int.gcd (-n) (-d)), (-d).tdiv (Int.gcd (-n) (-d))) := by
  unfold frac
  rw [if_pos hd, Int.neg_tdiv, Int.neg_tdiv, Int.neg_gcd, Int.gcd_neg, (tdiv_gcd (by omega)).1, (tdiv_gcd (by omega)).2]

theorem frac_pos' {n d : Int} (hd : 0 < d) : frac n d = (n.tdiv (Int.gcd n d), d.tdiv (Int.gcd n d)) := by
  unfold frac
  rw [if_neg (by omega), (tdiv_gcd (by omega)).1, (tdiv_gcd (by omega)).2]

theorem fn102 {H0 : Heap} {Q : Post} {n d : Int} (hn : B64 n) (hd : B64 d) (h0 : d ≠ 0) (hQ : ∀ H', H0.Le H' → Q (.agg (frC (frac n d)).toArray) H') : Runs Tryz.prog 102 #[.int .i64 n, .int .i64 d] H0 Q := by
  refine f102.enter ?_
  unfold f102.w
  refine Wl.new (Loc.start H0) fun H b h => ?_
  have key : ∀ n' d' : Int, B64 n' → B64 d' → 0 < d' → frac n d = (n'.tdiv (Int.gcd n' d'), d'.tdiv (Int.gcd n' d')) → f102.j1 Q (pt b 0) (.int .i64 n') (.int .i64 d') H := by
    intro n' d' hn' hd' hp e
    have hg := gcd_pos (n := n') (d := d') (by omega)
    unfold f102.j1
    refine Wi.call (fn136 hn' hd' (Wi.quo (by omega) (tdiv_B hn').i64 (Wi.quo (by omega) (tdiv_B hd').i64 ?_)))
    refine Wi.build (cells := frC (n'.tdiv (Int.gcd n' d'), d'.tdiv (Int.gcd n' d'))) rfl (Wl.putA h rfl rfl rfl fun H h => Wl.getA h rfl ?_)
    have := hQ _ h.le
    rw [e] at this
    exact this
  refine Wi.lssC (fun hlt => Wi.tru ?_) fun hge => Wi.fls ?_
  · exact Wi.neg hn.neg.i64 (Wi.neg hd.neg.i64 (key _ _ hn.neg hd.neg (by omega) (frac_neg hlt)))
  · exact key _ _ hn hd (by omega) (frac_pos' (by omega))

theorem fn101 {H0 : Heap} {Q : Post} {a : Frac} (hQ : ∀ H', H0.Le H' → Q (.tuple #[.agg (frC (if isFr 1000000000 a then (a, 0) else ((0, 0), 3) : Frac × Int).1).toArray, .int .i64 (if isFr 1000000000 a then (a, 0) else ((0, 0), 3) : Frac × Int).2]) H') : Runs Tryz.prog 101 #[.agg (frC a).toArray] H0 Q := by
  refine f101.enter ?_
  unfold f101.w
  refine Wl.box (Loc.start H0) fun H b h => Wl.new h fun H b2 h => Wl.getA h rfl (Wi.call (fn135 fun H l => ?_))
  have h := h.to l
  cases hf : isFr 1000000000 a with
  | false =>
    rw [hf] at hQ
    simp only [gw]
    exact Wi.build (cells := frC (0, 0)) rfl (Wl.putA h rfl rfl rfl fun H h => Wl.getA h rfl (hQ _ h.le))
  | true =>
    rw [hf] at hQ
    simp only [gw]
    exact Wl.getA h rfl (Wl.putA h rfl rfl rfl fun H h => Wl.getA h rfl (hQ _ h.le))

theorem fn99 {H0 : Heap} {Q : Post} {n d : Int} (hn : B64 n) (hd : B64 d) (h0 : d ≠ 0) (hQ : ∀ H', H0.Le H' → Q (.tuple #[.agg (frC (fracT n d).1).toArray, .int .i64 (fracT n d).2]) H') : Runs Tryz.prog 99 #[.int .i64 n, .int .i64 d] H0 Q := by
  refine f99.enter ?_
  unfold f99.w
  have hg := gcd_pos (n := n) h0
  refine Wl.new (Loc.start H0) fun H b h => Wi.call (fn123 hn hd ?_)
  have key : ∀ g : Int, g ≠ 0 → frac n d = (n.tdiv g, d.tdiv g) → f99.j1 Q (.int .i64 n) (.int .i64 d) (pt b 0) (.int .i64 g) H := by
    intro g hg e
    unfold f99.j1
    refine Wi.quo hg (tdiv_B hn).i64 (Wi.quo hg (tdiv_B hd).i64 ?_)
    refine Wi.build (cells := frC (n.tdiv g, d.tdiv g)) rfl (Wl.new h fun H b2 h => Wl.putA h rfl rfl rfl fun H h => Wl.getA h rfl (Wi.call (fn134 (a := (n.tdiv g, d.tdiv g)) fun H l => ?_)))
    have h := h.to l
    unfold fracT at hQ
    rw [e] at hQ
    cases hf : isFr 1000000000 (n.tdiv g, d.tdiv g) with
    | false =>
      rw [hf] at hQ
      simp only [gw]
      exact Wi.build (cells := frC (0, 0)) rfl (Wl.putA h rfl rfl rfl fun H h => Wl.getA h rfl (hQ _ h.le))
    | true =>
      rw [hf] at hQ
      simp only [gw]
      exact Wl.getA h rfl (Wl.putA h rfl rfl rfl fun H h => Wl.getA h rfl (hQ _ h.le))
  have hgB : B64 (Int.gcd n d) := by
    unfold B64 at *
    have := Int.gcd_le_natAbs_right n h0
    omega
  refine Wi.lssC (fun hlt => Wi.tru ?_) fun hge => Wi.fls ?_
  · refine Wi.neg hgB.neg.i64 (key _ (by omega) ?_)
    rw [frac_neg hlt, Int.neg_gcd, Int.gcd_neg, Int.neg_tdiv, Int.neg_tdiv, Int.tdiv_neg, Int.tdiv_neg]
  · exact key _ (by omega) (frac_pos' (by omega))


end Go.Proofs.YtbcfknboheghkaaGreat
