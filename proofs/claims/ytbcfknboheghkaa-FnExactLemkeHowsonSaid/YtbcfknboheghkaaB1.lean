/- Contracts of the program's small tests of numbers, lists and rows. No condition. -/
import Derived.Test.YtbcfknboheghkaaA1
import Derived.Test.YtbcfknboheghkaaZabG5
namespace Go.Proofs.Ytbcfknboheghkaa
open Go.Ab

/- loop.example/g01343/impl.within -/
def f25.w (Q : Post) (n_0 : Value) (low_1 : Value) (high_2 : Value) (H : Heap) : Prop :=
  W.bin .geq n_0 low_1 H fun v1 H =>
  W.guarded v1 true (fun H k => k n_0 H) H fun v2 H =>
  W.guarded v1 true (fun H k => k high_2 H) H fun v3 H =>
  W.guarded v1 true (fun H k => W.bin .leq v2 v3 H k) H fun v4 H =>
  W.pick v1 v4 (.bool false) H fun v5 H =>
  Q v5 H
theorem f25.enter {Q : Post} {n_0 : Value} {low_1 : Value} {high_2 : Value} {H : Heap} (h : f25.w Q n_0 low_1 high_2 H) : Runs Try.prog 25 #[n_0, low_1, high_2] H Q :=
  fn_enter (ann := []) (by kernel_rfl) Try.func25 rfl (by kernel_rfl) h (by kernel_rfl)

/- loop.example/g01343/impl.upTo -/
def f73.w (Q : Post) (n_0 : Value) (most_1 : Value) (H : Heap) : Prop :=
  W.un .neg most_1 H fun v1 H =>
  W.call Try.prog (.func (.func 25) #[] #[]) #[n_0, v1, most_1] H fun v2 H =>
  Q v2 H
theorem f73.enter {Q : Post} {n_0 : Value} {most_1 : Value} {H : Heap} (h : f73.w Q n_0 most_1 H) : Runs Try.prog 73 #[n_0, most_1] H Q :=
  fn_enter (ann := []) (by kernel_rfl) Try.func73 rfl (by kernel_rfl) h (by kernel_rfl)

/- slices.IndexFunc[[]int64,int64] -/
def f64.l1 (Q : Post) (v1 : Value) (s_0 : Value) (f_1 : Value) (I1 : St [8] → Heap → Prop) (x_8 : Value) (H : Heap) : Prop :=
  W.bin .lss x_8 v1 H fun v2 H =>
  W.cond v2 H
  (fun H => W.indexAddr 1 s_0 x_8 H fun v3 H =>
   W.get v3 H fun v4 H =>
   W.call Try.prog f_1 #[v4] H fun v5 H =>
   W.cond v5 H
   (fun H => Q x_8 H)
   (fun H => W.bin .add x_8 (.int .i64 1) H fun v6 H =>
    I1 (v6, ()) H))
  (fun H => Q (.int .i64 (-1)) H)
def f64.w (Q : Post) (s_0 : Value) (f_1 : Value) (H : Heap) : Prop :=
  W.len s_0 H fun v1 H =>
  W.loop (S := St [8]) (fun I1 s H => f64.l1 Q v1 s_0 f_1 I1 s.1 H) ((.int .i64 0), ()) H
theorem f64.enter {Q : Post} {s_0 : Value} {f_1 : Value} {H : Heap} (h : f64.w Q s_0 f_1 H) : Runs Try.prog 64 #[s_0, f_1] H Q :=
  fn_enter (ann := [(2, [8])]) (by kernel_rfl) Try.func64 rfl (by kernel_rfl) h (by kernel_rfl)

/- slices.IndexFunc[[][]int64,[]int64] -/
def f63.l1 (Q : Post) (v1 : Value) (s_0 : Value) (f_1 : Value) (I1 : St [8] → Heap → Prop) (x_8 : Value) (H : Heap) : Prop :=
  W.bin .lss x_8 v1 H fun v2 H =>
  W.cond v2 H
  (fun H => W.indexAddr 1 s_0 x_8 H fun v3 H =>
   W.get v3 H fun v4 H =>
   W.call Try.prog f_1 #[v4] H fun v5 H =>
   W.cond v5 H
   (fun H => Q x_8 H)
   (fun H => W.bin .add x_8 (.int .i64 1) H fun v6 H =>
    I1 (v6, ()) H))
  (fun H => Q (.int .i64 (-1)) H)
def f63.w (Q : Post) (s_0 : Value) (f_1 : Value) (H : Heap) : Prop :=
  W.len s_0 H fun v1 H =>
  W.loop (S := St [8]) (fun I1 s H => f63.l1 Q v1 s_0 f_1 I1 s.1 H) ((.int .i64 0), ()) H
theorem f63.enter {Q : Post} {s_0 : Value} {f_1 : Value} {H : Heap} (h : f63.w Q s_0 f_1 H) : Runs Try.prog 63 #[s_0, f_1] H Q :=
  fn_enter (ann := [(2, [8])]) (by kernel_rfl) Try.func63 rfl (by kernel_rfl) h (by kernel_rfl)

/- slices.ContainsFunc[[]int64,int64] -/
def f57.w (Q : Post) (s_0 : Value) (f_1 : Value) (H : Heap) : Prop :=
  W.call Try.prog (.func (.func 64) #[] #[]) #[s_0, f_1] H fun v1 H =>
  W.bin .geq v1 (.int .i64 0) H fun v2 H =>
  Q v2 H
theorem f57.enter {Q : Post} {s_0 : Value} {f_1 : Value} {H : Heap} (h : f57.w Q s_0 f_1 H) : Runs Try.prog 57 #[s_0, f_1] H Q :=
  fn_enter (ann := []) (by kernel_rfl) Try.func57 rfl (by kernel_rfl) h (by kernel_rfl)

/- slices.ContainsFunc[[][]int64,[]int64] -/
def f55.w (Q : Post) (s_0 : Value) (f_1 : Value) (H : Heap) : Prop :=
  W.call Try.prog (.func (.func 63) #[] #[]) #[s_0, f_1] H fun v1 H =>
  W.bin .geq v1 (.int .i64 0) H fun v2 H =>
  Q v2 H
theorem f55.enter {Q : Post} {s_0 : Value} {f_1 : Value} {H : Heap} (h : f55.w Q s_0 f_1 H) : Runs Try.prog 55 #[s_0, f_1] H Q :=
  fn_enter (ann := []) (by kernel_rfl) Try.func55 rfl (by kernel_rfl) h (by kernel_rfl)


theorem fn25 {H : Heap} {Q : Post} {n lo hi : Int} (h : Q (.bool (inR lo hi n)) H) : Runs Try.prog 25 #[.int .i64 n, .int .i64 lo, .int .i64 hi] H Q := by
  refine f25.enter ?_
  unfold f25.w
  refine Wi.geq ?_
  unfold inR at h
  cases hb : decide (lo ≤ n) with
  | true =>
    rw [hb] at h
    exact Wi.gT (Wi.gT (Wi.gT (Wi.leq (Wi.pickT h))))
  | false =>
    rw [hb] at h
    exact Wi.gF (Wi.gF (Wi.gF (Wi.pickF h)))

theorem fn73 {H : Heap} {Q : Post} {n m : Int} (hm : I64 (-m)) (h : Q (.bool (inR (-m) m n)) H) : Runs Try.prog 73 #[.int .i64 n, .int .i64 m] H Q :=
  f73.enter (Wi.neg hm (Wi.call (fn25 h)))

theorem index64 : IndexF Try.prog 64 Rd.int := IndexF.of rfl (n := 8) fun _ _ _ _ h => f64.enter h
theorem index63 : IndexF Try.prog 63 RS := IndexF.of rfl (n := 8) fun _ _ _ _ h => f63.enter h
theorem contains57 : ContainsF Try.prog 57 Rd.int := ContainsF.of index64 fun _ _ _ _ h => f57.enter h
theorem contains55 : ContainsF Try.prog 55 RS := ContainsF.of index63 fun _ _ _ _ h => f55.enter h

/-- All numbers are from -m to m. -/
def allUp (m : Int) (xs : List Int) : Bool := xs.all (inR (-m) m)


/-- A square of numbers, n rows of n. -/
def isSq (n : Nat) (m : List (List Int)) : Bool := decide (m.length = n) && m.all (fun r => decide (r.length = n))

end Go.Proofs.Ytbcfknboheghkaa
