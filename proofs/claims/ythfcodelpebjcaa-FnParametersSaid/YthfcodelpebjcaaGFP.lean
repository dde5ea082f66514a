/- The next breakpoint of a way, the program's and the reference's. No condition. -/
import Derived.Test.YthfcodelpebjcaaV1
import Derived.Test.YthfcodelpebjcaaF1
import Derived.Test.YthfcodelpebjcaaGSR
import Derived.Test.YthfcodelpebjcaaZabG9
import Derived.Test.YthfcodelpebjcaaZabOne
import Derived.Test.YthfcodelpebjcaaPA1
import Derived.Test.YthfcodelpebjcaaDG1
import Derived.Test.YthfcodelpebjcaaQ4
import Derived.Test.YthfcodelpebjcaaV2
import Derived.Test.YthfcodelpebjcaaV4
namespace Go.Proofs.Ythfcodelpebjcaa
open Go.Ab

/- (loop.example/g01343/impl.Frac).compare -/
def f64.w (Q : Post) (a_0 : Value) (b_1 : Value) (H : Heap) : Prop :=
  W.box a_0 50 H fun v1 H =>
  W.box b_1 50 H fun v2 H =>
  W.fieldAddr 0 v1 H fun v3 H =>
  W.get v3 H fun v4 H =>
  W.fieldAddr 1 v2 H fun v5 H =>
  W.get v5 H fun v6 H =>
  W.bin .mul v4 v6 H fun v7 H =>
  W.fieldAddr 0 v2 H fun v8 H =>
  W.get v8 H fun v9 H =>
  W.fieldAddr 1 v1 H fun v10 H =>
  W.get v10 H fun v11 H =>
  W.bin .mul v9 v11 H fun v12 H =>
  W.bin .sub v7 v12 H fun v13 H =>
  W.call Try.prog (.func (.func 93) #[] #[]) #[v13] H fun v14 H =>
  Q v14 H
theorem f64.enter {Q : Post} {a_0 : Value} {b_1 : Value} {H : Heap} (h : f64.w Q a_0 b_1 H) : Runs Try.prog 64 #[a_0, b_1] H Q :=
  fn_enter (ann := []) (by kernel_rfl) Try.func64 rfl (by kernel_rfl) h (by kernel_rfl)

/- loop.example/g01343/impl.breakpoint -/
def f82.j1 (Q : Post) (x_18 : Value) (I1 : St [10, 18] → Heap → Prop) (which_10' : Value) (H : Heap) : Prop :=
  W.bin .add x_18 (.int .i64 1) H fun v9 H =>
  I1 (which_10', v9, ()) H
def f82.j3 (Q : Post) (x_18 : Value) (I1 : St [10, 18] → Heap → Prop) (which_10'' : Value) (H : Heap) : Prop :=
  f82.j1 Q x_18 I1 which_10'' H
def f82.j4 (Q : Post) (x_18 : Value) (I1 : St [10, 18] → Heap → Prop) (which_10''' : Value) (H : Heap) : Prop :=
  f82.j3 Q x_18 I1 which_10''' H
def f82.j2 (Q : Post) (v19 : Value) (x_18 : Value) (v3 : Value) (which_10 : Value) (I1 : St [10, 18] → Heap → Prop) (c_15 : Value) (H : Heap) : Prop :=
  W.bin .lss c_15 (.int .i64 0) H fun v29 H =>
  W.cond v29 H
  (fun H => W.getN 2 v19 H fun v30 H =>
   W.lit 1 [(.int .i64 0)] 3 [(0, 1, x_18)] H fun v31 H =>
   W.putN 2 v3 v30 H fun _ H =>
   f82.j3 Q x_18 I1 v31 H)
  (fun H => W.bin .eql c_15 (.int .i64 0) H fun v32 H =>
   W.cond v32 H
   (fun H => W.lit 1 [(.int .i64 0)] 3 [(0, 1, x_18)] H fun v33 H =>
    W.append 1 3 which_10 v33 H fun v34 H =>
    f82.j4 Q x_18 I1 v34 H)
   (fun H => f82.j4 Q x_18 I1 which_10 H))
def f82.l1 (Q : Post) (v4 : Value) (b_1 : Value) (a_0 : Value) (v1 : Value) (v3 : Value) (v2 : Value) (I1 : St [10, 18] → Heap → Prop) (which_10 : Value) (x_18 : Value) (H : Heap) : Prop :=
  W.bin .lss x_18 v4 H fun v5 H =>
  W.cond v5 H
  (fun H => W.indexAddr 1 b_1 x_18 H fun v6 H =>
   W.get v6 H fun v7 H =>
   W.bin .geq v7 (.int .i64 0) H fun v8 H =>
   W.cond v8 H
   (fun H => f82.j1 Q x_18 I1 which_10 H)
   (fun H => W.indexAddr 1 a_0 x_18 H fun v10 H =>
    W.get v10 H fun v11 H =>
    W.call Try.prog (.func (.func 112) #[] #[]) #[v11, v7] H fun v12 H =>
    W.indexAddr 1 a_0 x_18 H fun v13 H =>
    W.get v13 H fun v14 H =>
    W.bin .quo v14 v12 H fun v15 H =>
    W.un .neg v7 H fun v16 H =>
    W.bin .quo v16 v12 H fun v17 H =>
    W.build [(.int .i64 0), (.int .i64 0)] [(0, 1, v15), (1, 1, v17)] H fun v18 H =>
    W.new [(.int .i64 0), (.int .i64 0)] 50 H fun v19 H =>
    W.putN 2 v19 v18 H fun _ H =>
    W.getN 2 v19 H fun v20 H =>
    W.getN 2 v1 H fun v21 H =>
    W.call Try.prog (.func (.func 64) #[] #[]) #[v20, v21] H fun v22 H =>
    W.bin .leq v22 (.int .i64 0) H fun v23 H =>
    W.cond v23 H
    (fun H => f82.j1 Q x_18 I1 which_10 H)
    (fun H => W.len which_10 H fun v24 H =>
     W.bin .gtr v24 (.int .i64 0) H fun v25 H =>
     W.cond v25 H
     (fun H => W.getN 2 v19 H fun v26 H =>
      W.getN 2 v3 H fun v27 H =>
      W.call Try.prog (.func (.func 64) #[] #[]) #[v26, v27] H fun v28 H =>
      f82.j2 Q v19 x_18 v3 which_10 I1 v28 H)
     (fun H => f82.j2 Q v19 x_18 v3 which_10 I1 (.int .i64 (-1)) H))))
  (fun H => W.getN 2 v3 H fun v35 H =>
   W.len which_10 H fun v36 H =>
   W.bin .gtr v36 (.int .i64 0) H fun v37 H =>
   W.putN 2 v2 v35 H fun _ H =>
   W.getN 2 v2 H fun v38 H => Q (.tuple #[v38, which_10, v37]) H)
def f82.w (Q : Post) (a_0 : Value) (b_1 : Value) (before_2 : Value) (H : Heap) : Prop :=
  W.box before_2 50 H fun v1 H =>
  W.new [(.int .i64 0), (.int .i64 0)] 50 H fun v2 H =>
  W.new [(.int .i64 0), (.int .i64 0)] 50 H fun v3 H =>
  W.len b_1 H fun v4 H =>
  W.loop (S := St [10, 18]) (fun I1 s H => f82.l1 Q v4 b_1 a_0 v1 v3 v2 I1 s.1 s.2.1 H) ((.slice none 0 0), (.int .i64 0), ()) H
theorem f82.enter {Q : Post} {a_0 : Value} {b_1 : Value} {before_2 : Value} {H : Heap} (h : f82.w Q a_0 b_1 before_2 H) : Runs Try.prog 82 #[a_0, b_1, before_2] H Q :=
  fn_enter (ann := [(4, [10, 18])]) (by kernel_rfl) Try.func82 rfl (by kernel_rfl) h (by kernel_rfl)

/- loop.example/g01343/spec.l10Break -/
def f88.j1 (Q : Post) (i_14 : Value) (I1 : St [11, 12, 13, 14] → Heap → Prop) (at_11' : Value) (count_12' : Value) (found_13' : Value) (H : Heap) : Prop :=
  W.bin .add i_14 (.int .i64 1) H fun v10 H =>
  I1 (at_11', count_12', found_13', v10, ()) H
def f88.j2 (Q : Post) (i_14 : Value) (I1 : St [11, 12, 13, 14] → Heap → Prop) (at_11'' : Value) (count_12'' : Value) (found_13'' : Value) (H : Heap) : Prop :=
  f88.j1 Q i_14 I1 at_11'' count_12'' found_13'' H
def f88.j3 (Q : Post) (i_14 : Value) (at_11 : Value) (found_13 : Value) (I1 : St [11, 12, 13, 14] → Heap → Prop) (count_12''' : Value) (H : Heap) : Prop :=
  f88.j2 Q i_14 I1 at_11 count_12''' found_13 H
def f88.l1 (Q : Post) (a_0 : Value) (b_1 : Value) (v1 : Value) (v4 : Value) (v2 : Value) (I1 : St [11, 12, 13, 14] → Heap → Prop) (at_11 : Value) (count_12 : Value) (found_13 : Value) (i_14 : Value) (H : Heap) : Prop :=
  W.len a_0 H fun v5 H =>
  W.bin .lss i_14 v5 H fun v6 H =>
  W.cond v6 H
  (fun H => W.indexAddr 1 b_1 i_14 H fun v7 H =>
   W.get v7 H fun v8 H =>
   W.bin .geq v8 (.int .i64 0) H fun v9 H =>
   W.cond v9 H
   (fun H => f88.j1 Q i_14 I1 at_11 count_12 found_13 H)
   (fun H => W.indexAddr 1 a_0 i_14 H fun v11 H =>
    W.get v11 H fun v12 H =>
    W.indexAddr 1 b_1 i_14 H fun v13 H =>
    W.get v13 H fun v14 H =>
    W.un .neg v14 H fun v15 H =>
    W.callQ Try.prog (.func (.func 63) #[] #[]) #[v12, v15] H fun v16 H =>
    W.new [(.int .i64 0), (.int .i64 0)] 50 H fun v17 H =>
    W.putN 2 v17 v16 H fun _ H =>
    W.getN 2 v1 H fun v18 H =>
    W.getN 2 v17 H fun v19 H =>
    W.call Try.prog (.func (.func 65) #[] #[]) #[v18, v19] H fun v20 H =>
    W.un .not v20 H fun v21 H =>
    W.cond v21 H
    (fun H => f88.j1 Q i_14 I1 at_11 count_12 found_13 H)
    (fun H => W.un .not found_13 H fun v22 H =>
     W.guarded v22 false (fun H k => W.getN 2 v17 H k) H fun v23 H =>
     W.guarded v22 false (fun H k => W.getN 2 v4 H k) H fun v24 H =>
     W.guarded v22 false (fun H k => W.call Try.prog (.func (.func 65) #[] #[]) #[v23, v24] H k) H fun v25 H =>
     W.pick v22 (.bool true) v25 H fun v26 H =>
     W.cond v26 H
     (fun H => W.getN 2 v17 H fun v27 H =>
      W.putN 2 v4 v27 H fun _ H =>
      f88.j2 Q i_14 I1 i_14 (.int .i64 1) (.bool true) H)
     (fun H => W.getN 2 v17 H fun v28 H =>
      W.getN 2 v4 H fun v29 H =>
      W.eqPair .eql v28 v29 H fun v30 H =>
      W.cond v30 H
      (fun H => W.bin .add count_12 (.int .i64 1) H fun v31 H =>
       f88.j3 Q i_14 at_11 found_13 I1 v31 H)
      (fun H => f88.j3 Q i_14 at_11 found_13 I1 count_12 H)))))
  (fun H => W.getN 2 v4 H fun v32 H =>
   W.putN 2 v2 v32 H fun _ H =>
   W.getN 2 v2 H fun v33 H => Q (.tuple #[v33, at_11, count_12, found_13]) H)
def f88.w (Q : Post) (a_0 : Value) (b_1 : Value) (before_2 : Value) (H : Heap) : Prop :=
  W.box before_2 50 H fun v1 H =>
  W.new [(.int .i64 0), (.int .i64 0)] 50 H fun v2 H =>
  W.build [(.int .i64 0), (.int .i64 0)] [(0, 1, (.int .i64 0)), (1, 1, (.int .i64 1))] H fun v3 H =>
  W.new [(.int .i64 0), (.int .i64 0)] 50 H fun v4 H =>
  W.putN 2 v4 v3 H fun _ H =>
  W.loop (S := St [11, 12, 13, 14]) (fun I1 s H => f88.l1 Q a_0 b_1 v1 v4 v2 I1 s.1 s.2.1 s.2.2.1 s.2.2.2.1 H) ((.int .i64 0), (.int .i64 0), (.bool false), (.int .i64 0), ()) H
theorem f88.enter {Q : Post} {a_0 : Value} {b_1 : Value} {before_2 : Value} {H : Heap} (h : f88.w Q a_0 b_1 before_2 H) : Runs Try.prog 88 #[a_0, b_1, before_2] H Q :=
  fn_enter (ann := [(3, [11, 12, 13, 14])]) (by kernel_rfl) Try.func88 rfl (by kernel_rfl) h (by kernel_rfl)

/- loop.example/g01343/spec.l10Scaled -/
def f87.j1 (Q : Post) (i_6 : Value) (I1 : St [5, 6] → Heap → Prop) (out_5' : Value) (H : Heap) : Prop :=
  W.bin .add i_6 (.int .i64 1) H fun v10 H =>
  I1 (out_5', v10, ()) H
def f87.l1 (Q : Post) (list_0 : Value) (det_1 : Value) (I1 : St [5, 6] → Heap → Prop) (out_5 : Value) (i_6 : Value) (H : Heap) : Prop :=
  W.len list_0 H fun v2 H =>
  W.bin .lss i_6 v2 H fun v3 H =>
  W.cond v3 H
  (fun H => W.bin .lss det_1 (.int .i64 0) H fun v4 H =>
   W.cond v4 H
   (fun H => W.indexAddr 1 list_0 i_6 H fun v5 H =>
    W.get v5 H fun v6 H =>
    W.un .neg v6 H fun v7 H =>
    W.lit 1 [(.int .i64 0)] 2 [(0, 1, v7)] H fun v8 H =>
    W.append 1 2 out_5 v8 H fun v9 H =>
    f87.j1 Q i_6 I1 v9 H)
   (fun H => W.indexAddr 1 list_0 i_6 H fun v11 H =>
    W.get v11 H fun v12 H =>
    W.lit 1 [(.int .i64 0)] 2 [(0, 1, v12)] H fun v13 H =>
    W.append 1 2 out_5 v13 H fun v14 H =>
    f87.j1 Q i_6 I1 v14 H))
  (fun H => Q out_5 H)
def f87.w (Q : Post) (list_0 : Value) (det_1 : Value) (H : Heap) : Prop :=
  W.lit 0 [(.int .i64 0)] 2 [] H fun v1 H =>
  W.loop (S := St [5, 6]) (fun I1 s H => f87.l1 Q list_0 det_1 I1 s.1 s.2.1 H) (v1, (.int .i64 0), ()) H
theorem f87.enter {Q : Post} {list_0 : Value} {det_1 : Value} {H : Heap} (h : f87.w Q list_0 det_1 H) : Runs Try.prog 87 #[list_0, det_1] H Q :=
  fn_enter (ann := [(3, [5, 6])]) (by kernel_rfl) Try.func87 rfl (by kernel_rfl) h (by kernel_rfl)


theorem fn64 {H0 : Heap} {Q : Post} {a b : Frac} {A B : Nat} (h1 : (a.1 * b.2).natAbs ≤ A) (h2 : (b.1 * a.2).natAbs ≤ B) (h3 : A + B < 9223372036854775808) (hQ : ∀ H', H0.Le H' → Q (.int .i64 (sgI (a.1 * b.2 - b.1 * a.2))) H') : Runs Try.prog 64 #[.agg (frC a).toArray, .agg (frC b).toArray] H0 Q := by
  refine f64.enter ?_
  unfold f64.w
  refine Wl.box (Loc.start H0) fun H b1 h => Wl.box h fun H b2 h => Wi.fieldAddr0 (Wl.get h rfl (Wi.fieldAddr (Wl.get h rfl (Wi.mul (i64A h1 (by omega)) (Wi.fieldAddr0 (Wl.get h rfl (Wi.fieldAddr (Wl.get h rfl (Wi.mul (i64A h2 (by omega)) (Wi.sub (i64A (subA h1 h2) (by omega)) (Wi.call (fn93 ?_))))))))))))
  exact hQ _ h.le

/-- One fraction is less than another. -/
def fLt (x y : Frac) : Bool := decide (x.1 * y.2 < y.1 * x.2)

/-- Where a number that falls becomes 0. -/
def canF (a b : List Int) (i : Nat) : Frac := frac (a.getD i 0) (-(b.getD i 0))
def canOk (a b : List Int) (before : Frac) (i : Nat) : Bool := decide (b.getD i 0 < 0) && fLt before (canF a b i)

/-- The next breakpoint among the first ones, and which numbers become 0 there. -/
def bkTo (a b : List Int) (before : Frac) : Nat → Frac × List Int
  | 0 => ((0, 1), [])
  | i + 1 =>
    if canOk a b before i = true then
      (if (bkTo a b before i).2 = [] ∨ fLt (canF a b i) (bkTo a b before i).1 = true then (canF a b i, [(i : Int)])
      else if canF a b i = (bkTo a b before i).1 then ((bkTo a b before i).1, (bkTo a b before i).2 ++ [(i : Int)]) else bkTo a b before i)
    else bkTo a b before i

/-- A fraction in lowest terms that is not too large. -/
def Low (t : Frac) : Prop := (1 ≤ t.2 ∧ t.2 ≤ 768000000) ∧ t.1.natAbs ≤ 768000000 ∧ Int.gcd t.1 t.2 = 1

theorem low_fr {t : Frac} (h : Low t) : isFr 1000000000 t = true := by
  obtain ⟨h1, h2, h3⟩ := h
  exact isFr_iff.2 ⟨⟨h1.1, by omega⟩, ⟨by omega, by omega⟩, h3⟩

theorem canF_low {a b : List Int} (ba : ∀ e ∈ a, e.natAbs ≤ 768000000) (bb : ∀ e ∈ b, e.natAbs ≤ 768000000) {i : Nat} (h : b.getD i 0 < 0) : Low (canF a b i) := by
  have g : ∀ (l : List Int), (∀ e ∈ l, e.natAbs ≤ 768000000) → (l.getD i 0).natAbs ≤ 768000000 := fun l hl => by
    rw [List.getD_eq_getElem?_getD]
    cases e : l[i]? with
    | none => simp
    | some x => exact hl x (List.mem_of_getElem? e)
  have h1 := frac_abs (x := a.getD i 0) (d := -(b.getD i 0))
  have h2 := frac_pos (n := a.getD i 0) (d := -(b.getD i 0)) (by omega)
  have h3 := frac_gcd (n := a.getD i 0) (d := -(b.getD i 0)) (by omega)
  have := g a ba
  have := g b bb
  unfold Low canF
  exact ⟨⟨by omega, by omega⟩, by omega, h3⟩

theorem bk_low {a b : List Int} {before : Frac} (ba : ∀ e ∈ a, e.natAbs ≤ 768000000) (bb : ∀ e ∈ b, e.natAbs ≤ 768000000) : ∀ i, Low (bkTo a b before i).1
  | 0 => ⟨⟨by simp [bkTo], by simp [bkTo]⟩, by simp [bkTo], by simp [bkTo]⟩
  | i + 1 => by
    unfold bkTo
    split
    · rename_i h
      unfold canOk at h
      rw [Bool.and_eq_true] at h
      have hc := canF_low ba bb (of_decide_eq_true h.1)
      split
      · exact hc
      · split
        · exact bk_low ba bb i
        · exact bk_low ba bb i
    · exact bk_low ba bb i

theorem bk_len {a b : List Int} {before : Frac} : ∀ i, (bkTo a b before i).2.length ≤ i
  | 0 => by simp [bkTo]
  | i + 1 => by
    have := bk_len (a := a) (b := b) (before := before) i
    unfold bkTo
    split
    · split
      · simp
      · split
        · simp; omega
        · omega
    · omega

theorem bk_mem {a b : List Int} {before : Frac} : ∀ i, ∀ x ∈ (bkTo a b before i).2, 0 ≤ x ∧ x < (i : Int)
  | 0, x, h => by simp [bkTo] at h
  | i + 1, x, h => by
    have ih := bk_mem (a := a) (b := b) (before := before) i
    unfold bkTo at h
    split at h
    · split at h
      · simp only [List.mem_singleton] at h
        omega
      · split at h
        · simp only [List.mem_append, List.mem_singleton] at h
          rcases h with h | h
          · have := ih x h; omega
          · omega
        · have := ih x h; omega
    · have := ih x h; omega

theorem lowMul {x y : Frac} {A : Nat} (hx : x.1.natAbs ≤ A ∧ 1 ≤ x.2 ∧ x.2 ≤ (A : Int)) (hy : Low y) : (x.1 * y.2).natAbs ≤ A * 768000000 ∧ (y.1 * x.2).natAbs ≤ 768000000 * A :=
  ⟨mulA hx.1 (by have := hy.1; omega), mulA hy.2.1 (by omega)⟩

theorem low_ok {y : Frac} (h : Low y) : y.1.natAbs ≤ 768000000 ∧ 1 ≤ y.2 ∧ y.2 ≤ ((768000000 : Nat) : Int) := ⟨h.2.1, h.1.1, h.1.2⟩

theorem sgI_pos' {x : Int} : sgI x ≤ 0 ↔ x ≤ 0 := by
  unfold sgI
  split
  · omega
  · split <;> omega
theorem sgI_lt {x : Int} : sgI x < 0 ↔ x < 0 := by
  unfold sgI
  split
  · omega
  · split <;> omega
theorem sgI_zero {x : Int} : sgI x = 0 ↔ x = 0 := by
  unfold sgI
  split
  · omega
  · split <;> omega

theorem i64_low {t : Frac} (h : Low t) : I64 t.1 ∧ I64 t.2 := by
  obtain ⟨h1, h2, _⟩ := h
  unfold I64
  omega

theorem fn82 {H0 : Heap} {Q : Post} {va vb : Value} {a b : List Int} {before : Frac} (ha : Has RS H0 [va] a) (hb : Has RS H0 [vb] b) (hl : a.length = b.length) (hn : b.length ≤ 5)
    (ba : ∀ e ∈ a, e.natAbs ≤ 768000000) (bb : ∀ e ∈ b, e.natAbs ≤ 768000000) (hbe : Low before)
    (hQ : ∀ H' u t, Fresh RS H0 [u] (bkTo a b before b.length).2 H' → ((bkTo a b before b.length).2 ≠ [] → t = (bkTo a b before b.length).1) → Q (.tuple #[.agg (frC t).toArray, u, .bool (decide (0 < (bkTo a b before b.length).2.length))]) H') :
    Runs Try.prog 82 #[va, vb, .agg (frC before).toArray] H0 Q := by
  refine f82.enter ?_
  unfold f82.w
  have h := ((Loc.start H0).lent ha).lent hb
  refine Wl.box h fun H b1 h => Wl.new h fun H b2 h => Wl.new h fun H b3 h => Wl.len h ?_
  have h := h.nilG Rd.int 3
  refine W.for_rule b.length (fun x st H => ∃ u t, st = (u, .int .i64 (x : Nat), ()) ∧ ((bkTo a b before x).2 ≠ [] → t = (bkTo a b before x).1) ∧ Ab.Loc H0 [.grow Rd.int 3 u (bkTo a b before x).2, .box b3 (frC t), .box b2 (frC (0, 0)), .box b1 (frC before), .lent RS [vb] b, .lent RS [va] a] H)
    ⟨_, (0, 0), rfl, by simp [bkTo], h⟩ ?_
  rintro x st H J hx ⟨u, t, rfl, ht, h⟩ hJ
  have hI : I64 ((x : Int) + 1) := by unfold I64; omega
  have hlen := bk_len (a := a) (b := b) (before := before) x
  refine Wi.lssC (fun hlt => Wi.tru ?_) fun hge => Wi.fls ?_
  · have hxb : x < b.length := by omega
    have hxa : x < a.length := by omega
    have ebx : b.getD x 0 = b[x] := by simp [hxb]
    have eax : a.getD x 0 = a[x] := by simp [hxa]
    have hbx := bb _ (List.getElem_mem hxb)
    have hax := ba _ (List.getElem_mem hxa)
    refine Wl.atInt h hxb fun _ => Wi.geqC (fun hge => Wi.tru ?_) fun hlt => Wi.fls ?_
    · have e : bkTo a b before (x + 1) = bkTo a b before x := by
        rw [bkTo, if_neg]
        unfold canOk
        rw [Bool.and_eq_true, decide_eq_true_iff]
        omega
      unfold f82.j1
      exact Wi.add hI (hJ _ _ hxb ⟨u, t, rfl, by rw [e]; exact ht, by rw [e]; exact h⟩)
    · have hneg : b[x] < 0 := by omega
      have hlow := canF_low ba bb (i := x) (by rw [ebx]; exact hneg)
      have hg0 : (Int.gcd a[x] b[x] : Int) ≠ 0 := by
        have := gcd_pos (n := a[x]) (d := b[x]) (by omega)
        omega
      refine Wl.atInt h hxa fun _ => Wi.call (fn112 (by unfold B64; omega) (by unfold B64; omega) (Wl.atInt h hxa fun _ => Wi.quo hg0 (i64A (quoA hax) (by decide)) (Wi.neg (by unfold I64; omega) (Wi.quo hg0 (i64A (quoA (negA hbx)) (by decide)) ?_))))
      have ec : canF a b x = (a[x].tdiv (Int.gcd a[x] b[x]), (-b[x]).tdiv (Int.gcd a[x] b[x])) := by
        unfold canF
        rw [eax, ebx, frac_pos' (by omega), Int.gcd_neg]
      refine Wi.build (cells := frC (canF a b x)) (by rw [ec]; rfl) (Wl.new h fun H b4 h => Wl.putA h rfl rfl rfl fun H h => Wl.getA h rfl (Wl.getA h rfl ?_))
      generalize hcc : canF a b x = c at *
      have m1 := lowMul (low_ok hlow) hbe
      refine Wi.call (fn64 (A := 768000000 * 768000000) (B := 768000000 * 768000000) m1.1 m1.2 (by decide) fun H l => ?_)
      have h := h.to l
      have hok : canOk a b before x = true ↔ before.1 * c.2 < c.1 * before.2 := by
        unfold canOk fLt
        rw [hcc, ebx, decide_eq_true hneg, Bool.true_and, decide_eq_true_iff]
      refine Wi.leqC (fun hle => Wi.tru ?_) fun hgt => Wi.fls (Wl.len h ?_)
      · rw [sgI_pos'] at hle
        have e : bkTo a b before (x + 1) = bkTo a b before x := by
          rw [bkTo, if_neg]
          rw [hok]
          omega
        unfold f82.j1
        exact Wi.add hI (hJ _ _ hxb ⟨u, t, rfl, by rw [e]; exact ht, by rw [e]; exact h.tl⟩)
      rw [sgI_pos'] at hgt
      have hok' := hok.2 (by omega)
      have hbk : bkTo a b before (x + 1) = if (bkTo a b before x).2 = [] ∨ fLt c (bkTo a b before x).1 = true then (c, [(x : Int)]) else if c = (bkTo a b before x).1 then ((bkTo a b before x).1, (bkTo a b before x).2 ++ [(x : Int)]) else bkTo a b before x := by
        rw [bkTo, if_pos hok', hcc]
      -- what follows a comparison
      have fresh : ∀ H, bkTo a b before (x + 1) = (c, [(x : Int)]) → Ab.Loc H0 [.box b4 (frC c), .grow Rd.int 3 u (bkTo a b before x).2, .box b3 (frC t), .box b2 (frC (0, 0)), .box b1 (frC before), .lent RS [vb] b, .lent RS [va] a] H →
          W.getN 2 (pt b4 0) H fun v30 H => W.lit 1 [.int .i64 0] 3 [(0, 1, .int .i64 (x : Nat))] H fun v31 H => W.putN 2 (pt b3 0) v30 H fun _ H => f82.j3 Q (.int .i64 (x : Nat)) J v31 H := fun H e h => by
        refine Wl.getA h rfl (Wl.lit1 (r := Rd.int) (x := (x : Int)) rfl rfl rfl (fun _ => ⟨rfl, rfl, by unfold I64; omega⟩) h fun H w h => Wl.putA (vs := frC c) h rfl rfl rfl fun H h => ?_)
        unfold f82.j3 f82.j1
        refine Wi.add hI (hJ _ _ hxb ⟨w, c, rfl, by rw [e]; exact fun _ => rfl, ?_⟩)
        rw [e]
        exact (h.cut 1).cut 1
      have hbl := bk_low (before := before) ba bb x
      refine Wi.gtrC (fun hpos => Wi.tru ?_) fun hzero => Wi.fls ?_
      · have hne : (bkTo a b before x).2 ≠ [] := fun e => by rw [e] at hpos; simp at hpos
        have et := ht hne
        subst et
        have m2 := lowMul (low_ok hlow) hbl
        refine Wl.getA h rfl (Wl.getA h rfl (Wi.call (fn64 (A := 768000000 * 768000000) (B := 768000000 * 768000000) m2.1 m2.2 (by decide) fun H l => ?_)))
        have h := h.to l
        unfold f82.j2
        refine Wi.lssC (fun hl => Wi.tru ?_) fun hnl => Wi.fls ?_
        · rw [sgI_lt] at hl
          exact fresh _ (by rw [hbk, if_pos (.inr (by unfold fLt; rw [decide_eq_true_iff]; omega))]) h
        · rw [sgI_lt] at hnl
          have hnf : ¬ ((bkTo a b before x).2 = [] ∨ fLt c (bkTo a b before x).1 = true) := fun g => g.elim hne fun g => by
            unfold fLt at g
            rw [decide_eq_true_iff] at g
            omega
          rw [if_neg hnf] at hbk
          refine Wi.eqlC (fun he => Wi.tru ?_) fun hn2 => Wi.fls ?_
          · rw [sgI_zero] at he
            have ec := (frac_cross (by have := hlow.1; omega) (by have := hbl.1; omega) hlow.2.2 hbl.2.2).1 (show c.1 * (bkTo a b before x).1.2 = (bkTo a b before x).1.1 * c.2 by omega)
            rw [if_pos ec] at hbk
            refine Wl.pushP (r := Rd.int) (x := (x : Int)) (i := 1) rfl rfl rfl (fun _ => ⟨rfl, rfl, by unfold I64; omega⟩) h (by omega) fun H u' h => ?_
            unfold f82.j4 f82.j3 f82.j1
            exact Wi.add hI (hJ _ _ hxb ⟨u', _, rfl, by rw [hbk]; exact fun _ => rfl, by rw [hbk]; exact h.cut 0⟩)
          · rw [Ne, sgI_zero] at hn2
            have ec : ¬ c = (bkTo a b before x).1 := fun e => hn2 (by rw [← e]; omega)
            rw [if_neg ec] at hbk
            unfold f82.j4 f82.j3 f82.j1
            exact Wi.add hI (hJ _ _ hxb ⟨u, _, rfl, by rw [hbk]; exact fun _ => rfl, by rw [hbk]; exact h.cut 0⟩)
      · have he : (bkTo a b before x).2 = [] := List.eq_nil_of_length_eq_zero (by omega)
        unfold f82.j2
        exact Wi.lssC (fun _ => Wi.tru (fresh _ (by rw [hbk, if_pos (.inl he)]) h)) fun g => absurd (by decide) g
  · have : x = b.length := by omega
    subst this
    refine Wl.getA h rfl (Wl.len h (Wi.gtr (Wl.putA (b := b2) h rfl rfl rfl fun H h => Wl.getA h rfl ?_)))
    have hd : decide ((0 : Int) < ((bkTo a b before b.length).2.length : Nat)) = decide (0 < (bkTo a b before b.length).2.length) := by
      rw [Bool.eq_iff_iff, decide_eq_true_iff, decide_eq_true_iff]
      omega
    rw [hd]
    exact hQ _ u t ((h.asData (i := 0) rfl).ret (i := 0) rfl) ht

theorem fn87 {H0 : Heap} {Q : Post} {v : Value} {l : List Int} {d : Int} (hr : Has RS H0 [v] l) (hn : l.length ≤ 5) (hb : ∀ e ∈ l, e.natAbs ≤ 768000000) (hd : d ≠ 0) (hQ : ∀ H' u, Fresh RS H0 [u] (l.map fun x => sgI d * x) H' → Q u H') :
    Runs Try.prog 87 #[v, .int .i64 d] H0 Q := by
  refine f87.enter ?_
  unfold f87.w
  have h := (Loc.start H0).lent hr
  refine Wl.lit0 (ty := 2) Rd.int rfl h fun H u h => ?_
  refine W.for_rule l.length (fun x st H => ∃ u, st = (u, .int .i64 (x : Nat), ()) ∧ Ab.Loc H0 [.grow Rd.int 2 u ((l.take x).map fun x => sgI d * x), .lent RS [v] l] H) ⟨_, rfl, h⟩ ?_
  rintro x st H J hx ⟨u, rfl, h⟩ hJ
  have hI : I64 ((x : Int) + 1) := by unfold I64; omega
  refine Wl.len h (Wi.lssC (fun hlt => Wi.tru ?_) fun hge => Wi.fls ?_)
  · have hxl : x < l.length := by omega
    have hb1 := hb _ (List.getElem_mem hxl)
    have es : (l.take (x + 1)).map (fun x => sgI d * x) = (l.take x).map (fun x => sgI d * x) ++ [sgI d * l[x]] := by
      rw [List.take_succ_eq_append_getElem hxl, List.map_append]
      rfl
    have hlen : ((l.take x).map fun x => sgI d * x).length < 16777216 := by simp; omega
    have e1 : (if d < 0 then -l[x] else l[x]) = sgI d * l[x] := by
      unfold sgI
      split
      · omega
      · rw [if_pos (by omega)]; omega
    refine Wi.lssC (fun hlt => Wi.tru ?_) fun hge => Wi.fls ?_
    · rw [if_pos hlt] at e1
      refine Wl.atInt h hxl fun _ => Wi.neg (by unfold I64; omega) (Wl.pushP (r := Rd.int) (x := -l[x]) rfl rfl rfl (fun _ => ⟨rfl, rfl, by unfold I64; omega⟩) h hlen fun H u' h => ?_)
      unfold f87.j1
      exact Wi.add hI (hJ _ _ hxl ⟨u', rfl, by rw [es, ← e1]; exact h⟩)
    · rw [if_neg hge] at e1
      refine Wl.atInt h hxl fun _ => (Wl.pushP (r := Rd.int) (x := l[x]) rfl rfl rfl (fun _ => ⟨rfl, rfl, by unfold I64; omega⟩) h hlen fun H u' h => ?_)
      unfold f87.j1
      exact Wi.add hI (hJ _ _ hxl ⟨u', rfl, by rw [es, ← e1]; exact h⟩)
  · have : x = l.length := by omega
    subst this
    rw [List.take_length] at h
    exact hQ _ _ ((h.asData (i := 0) rfl).ret (i := 0) rfl)

theorem fn88 {H0 : Heap} {Q : Post} {va vb : Value} {a b : List Int} {before : Frac} (ha : Has RS H0 [va] a) (hb : Has RS H0 [vb] b) (hl : a.length = b.length) (hn : b.length ≤ 5)
    (ba : ∀ e ∈ a, e.natAbs ≤ 768000000) (bb : ∀ e ∈ b, e.natAbs ≤ 768000000) (hbe : Low before)
    (hQ : ∀ H', H0.Le H' → Q (.tuple #[.agg (frC (bkTo a b before b.length).1).toArray, .int .i64 ((bkTo a b before b.length).2.getD 0 0), .int .i64 ((bkTo a b before b.length).2.length : Nat), .bool (decide (0 < (bkTo a b before b.length).2.length))]) H') :
    Runs Try.prog 88 #[va, vb, .agg (frC before).toArray] H0 Q := by
  refine f88.enter ?_
  unfold f88.w
  have h := ((Loc.start H0).lent ha).lent hb
  refine Wl.box h fun H b1 h => Wl.new h fun H b2 h => Wi.build (cells := frC (0, 1)) rfl (Wl.new h fun H b3 h => Wl.putA h rfl rfl rfl fun H h => ?_)
  refine W.for_rule b.length (fun x st H => st = (.int .i64 ((bkTo a b before x).2.getD 0 0), .int .i64 ((bkTo a b before x).2.length : Nat), .bool (decide (0 < (bkTo a b before x).2.length)), .int .i64 (x : Nat), ()) ∧ Ab.Loc H0 [.box b3 (frC (bkTo a b before x).1), .box b2 (frC (0, 0)), .box b1 (frC before), .lent RS [vb] b, .lent RS [va] a] H)
    ⟨rfl, h⟩ ?_
  rintro x st H J hx ⟨rfl, h⟩ hJ
  have hI : I64 ((x : Int) + 1) := by unfold I64; omega
  have hlen := bk_len (a := a) (b := b) (before := before) x
  refine Wl.len h (Wi.lssC (fun hlt => Wi.tru ?_) fun hge => Wi.fls ?_)
  · have hxb : x < b.length := by omega
    have hxa : x < a.length := by omega
    have ebx : b.getD x 0 = b[x] := by simp [hxb]
    have eax : a.getD x 0 = a[x] := by simp [hxa]
    have hbx := bb _ (List.getElem_mem hxb)
    have hax := ba _ (List.getElem_mem hxa)
    have same : bkTo a b before (x + 1) = bkTo a b before x → ∀ H, Ab.Loc H0 [.box b3 (frC (bkTo a b before x).1), .box b2 (frC (0, 0)), .box b1 (frC before), .lent RS [vb] b, .lent RS [va] a] H →
        f88.j1 Q (.int .i64 (x : Nat)) J (.int .i64 ((bkTo a b before x).2.getD 0 0)) (.int .i64 ((bkTo a b before x).2.length : Nat)) (.bool (decide (0 < (bkTo a b before x).2.length))) H := fun e H h => by
      unfold f88.j1
      exact Wi.add hI (hJ _ _ hxb ⟨by rw [e]; rfl, by rw [e]; exact h⟩)
    refine Wl.atInt h hxb fun _ => Wi.geqC (fun hge => Wi.tru ?_) fun hlt => Wi.fls ?_
    · refine same ?_ _ h
      rw [bkTo, if_neg]
      unfold canOk
      rw [Bool.and_eq_true, decide_eq_true_iff]
      omega
    · have hneg : b[x] < 0 := by omega
      have hlow := canF_low ba bb (i := x) (by rw [ebx]; exact hneg)
      have hbl := bk_low (before := before) ba bb x
      have ec : canF a b x = frac a[x] (-b[x]) := by
        unfold canF
        rw [eax, ebx]
      refine Wl.atInt h hxa fun _ => Wl.atInt h hxb fun _ => Wi.neg (by unfold I64; omega) (Wi.callQ (fn63 (by unfold B64; omega) (by unfold B64; omega) (by omega) fun H l => ⟨l, ?_⟩))
      have h := h.to l
      rw [← ec]
      refine Wl.new h fun H b4 h => Wl.putA h rfl rfl rfl fun H h => Wl.getA h rfl (Wl.getA h rfl ?_)
      generalize hcc : canF a b x = c at *
      have m1 := lowMul (low_ok hlow) hbe
      refine Wi.call (fn65 (i64A m1.2 (by decide)) (i64A m1.1 (by decide)) fun H l => ?_)
      have h := h.to l
      have hok : canOk a b before x = true ↔ before.1 * c.2 < c.1 * before.2 := by
        unfold canOk fLt
        rw [hcc, ebx, decide_eq_true hneg, Bool.true_and, decide_eq_true_iff]
      by_cases hlt2 : before.1 * c.2 < c.1 * before.2
      · rw [decide_eq_true hlt2]
        have hok' := hok.2 hlt2
        have hbk : bkTo a b before (x + 1) = if (bkTo a b before x).2 = [] ∨ fLt c (bkTo a b before x).1 = true then (c, [(x : Int)]) else if c = (bkTo a b before x).1 then ((bkTo a b before x).1, (bkTo a b before x).2 ++ [(x : Int)]) else bkTo a b before x := by
          rw [bkTo, if_pos hok', hcc]
        simp only [gw]
        have fresh : ∀ H, bkTo a b before (x + 1) = (c, [(x : Int)]) → Ab.Loc H0 [.box b4 (frC c), .box b3 (frC (bkTo a b before x).1), .box b2 (frC (0, 0)), .box b1 (frC before), .lent RS [vb] b, .lent RS [va] a] H →
            W.getN 2 (pt b4 0) H fun v30 H => W.putN 2 (pt b3 0) v30 H fun _ H => f88.j2 Q (.int .i64 (x : Nat)) J (.int .i64 (x : Nat)) (.int .i64 1) (.bool true) H := fun H e h => by
          refine Wl.getA h rfl (Wl.putA (vs := frC c) h rfl rfl rfl fun H h => ?_)
          unfold f88.j2 f88.j1
          exact Wi.add hI (hJ _ _ hxb ⟨by rw [e]; rfl, by rw [e]; exact h.cut 0⟩)
        by_cases hpos : 0 < (bkTo a b before x).2.length
        · have hne : (bkTo a b before x).2 ≠ [] := fun e => by rw [e] at hpos; simp at hpos
          rw [decide_eq_true hpos]
          simp only [gw]
          have m2 := lowMul (low_ok hlow) hbl
          refine Wl.getA h rfl (Wl.getA h rfl (Wi.call (fn65 (i64A m2.1 (by decide)) (i64A m2.2 (by decide)) fun H l => ?_)))
          have h := h.to l
          by_cases hl : c.1 * (bkTo a b before x).1.2 < (bkTo a b before x).1.1 * c.2
          · rw [decide_eq_true hl]
            simp only [gw]
            exact fresh _ (by rw [hbk, if_pos (.inr (by unfold fLt; rw [decide_eq_true_iff]; exact hl))]) h
          · rw [decide_eq_false hl]
            simp only [gw]
            have hnf : ¬ ((bkTo a b before x).2 = [] ∨ fLt c (bkTo a b before x).1 = true) := fun g => g.elim hne fun g => hl (by
              unfold fLt at g
              rwa [decide_eq_true_iff] at g)
            rw [if_neg hnf] at hbk
            have i1 := i64_low hlow
            have i2 := i64_low hbl
            refine Wl.getA h rfl (Wl.getA h rfl (Wi.eqPair i1.1 i1.2 i2.1 i2.2 ?_))
            by_cases he : c = (bkTo a b before x).1
            · rw [if_pos he] at hbk
              have : (decide (c.1 = (bkTo a b before x).1.1) && decide (c.2 = (bkTo a b before x).1.2)) = true := by rw [he]; simp
              rw [this]
              simp only [gw]
              refine Wi.add (by unfold I64; omega) ?_
              unfold f88.j3 f88.j2 f88.j1
              refine Wi.add hI (hJ _ _ hxb ⟨?_, by rw [hbk]; exact h.cut 0⟩)
              rw [hbk]
              have e0 : ((bkTo a b before x).2 ++ [(x : Int)]).getD 0 0 = (bkTo a b before x).2.getD 0 0 := by
                simp only [List.getD_eq_getElem?_getD]
                rw [List.getElem?_append_left hpos]
              simp only [e0, List.length_append, List.length_singleton]
              simp
              rfl
            · rw [if_neg he] at hbk
              have : (decide (c.1 = (bkTo a b before x).1.1) && decide (c.2 = (bkTo a b before x).1.2)) = false := by
                rw [Bool.and_eq_false_iff, decide_eq_false_iff_not, decide_eq_false_iff_not]
                apply Classical.byContradiction
                intro g
                rw [not_or, Classical.not_not, Classical.not_not] at g
                exact he (Prod.ext g.1 g.2)
              rw [this]
              simp only [gw]
              unfold f88.j3 f88.j2
              have := same hbk _ (h.cut 0)
              rw [decide_eq_true hpos] at this
              exact this
        · have he : (bkTo a b before x).2 = [] := List.eq_nil_of_length_eq_zero (by omega)
          rw [decide_eq_false hpos]
          simp only [gw]
          exact fresh _ (by rw [hbk, if_pos (.inl he)]) h
      · rw [decide_eq_false hlt2]
        simp only [gw]
        refine same ?_ _ (h.cut 0)
        rw [bkTo, if_neg]
        rw [hok]
        exact hlt2
  · have : x = b.length := by omega
    subst this
    refine Wl.getA h rfl (Wl.putA (b := b2) h rfl rfl rfl fun H h => Wl.getA h rfl ?_)
    exact hQ _ h.le

end Go.Proofs.Ythfcodelpebjcaa
/-! Ways of problems with directions: what they are. No condition. -/
namespace Go.Proofs.Ythfcodelpebjcaa
open Go.Ab

def wayN (n : Nat) (p : Prob) (q : List Int) (s : Nat) : List Int := pointL n (colL n p.1 s) q

theorem wayN_len (n : Nat) (p : Prob) (q : List Int) (s : Nat) : (wayN n p q s).length = n := by simp [wayN, pointL, solveL]

theorem wayN_abs {n : Nat} {p : Prob} {q : List Int} {s : Nat} (hp : PB n p) (hq : ∀ e ∈ q, e.natAbs ≤ 100) : ∀ e ∈ wayN n p q s, e.natAbs ≤ 768000000 := fun e he => by
  obtain ⟨x, hx, rfl⟩ := List.mem_map.1 he
  have h1 := solve_had s hp.n5 hp.m hq x hx
  have h2 := mulA (sgI_abs (det n (mAt (colL n p.1 s)))) h1
  omega

/-- The way from a set on. -/
def folF (n : Nat) (p : Prob) (d : List Int) : Nat → Nat → List Int → List Frac → Frac → List Int × List Frac × Int
  | 0, _, _, _, _ => ([], [], 3)
  | k + 1, s, sets, breaks, before =>
    if (bkTo (wayN n p p.2 s) (wayN n p d s) before n).2 = [] then (sets, breaks, 0)
    else if 1 < (bkTo (wayN n p p.2 s) (wayN n p d s) before n).2.length then ([], [], 5)
    else if breaks.length = 40 then ([], [], 3)
    else if det n (mAt (colL n p.1 (s ^^^ 2 ^ ((bkTo (wayN n p p.2 s) (wayN n p d s) before n).2.getD 0 0).toNat))) = 0 then ([], [], 5)
    else if (wayN n p d (s ^^^ 2 ^ ((bkTo (wayN n p p.2 s) (wayN n p d s) before n).2.getD 0 0).toNat)).getD ((bkTo (wayN n p p.2 s) (wayN n p d s) before n).2.getD 0 0).toNat 0 ≤ 0 then ([], [], 5)
    else folF n p d k (s ^^^ 2 ^ ((bkTo (wayN n p p.2 s) (wayN n p d s) before n).2.getD 0 0).toNat) (sets ++ [((s ^^^ 2 ^ ((bkTo (wayN n p p.2 s) (wayN n p d s) before n).2.getD 0 0).toNat : Nat) : Int)]) (breaks ++ [(bkTo (wayN n p p.2 s) (wayN n p d s) before n).1]) (bkTo (wayN n p p.2 s) (wayN n p d s) before n).1

/-- The first set of a way, if there is one. -/
def firstS (n : Nat) (p : Prob) : Option Nat := if (covN n p).length = 1 ∧ zeroB n p ((covN n p).getD 0 0) = false then some ((covN n p).getD 0 0) else none

def wayR (n : Nat) (p : Prob) (d : List Int) : List Int × List Frac × Int := match firstS n p with | some s => folF n p d 41 s [(s : Int)] [] (0, 1) | none => ([], [], 5)

def folRes (p : Prob) (d : List Int) : List Int × List Frac × Int := if isProb p = true then (if dirOk p.2.length d = true then wayR p.2.length p d else ([], [], 2)) else ([], [], 1)

/-- What a way comes to: few sets, fractions in lowest terms. -/
structure WayOk (r : List Int × List Frac × Int) : Prop where
  sets : r.1.length ≤ 41
  breaks : r.2.1.length ≤ 40
  low : ∀ t ∈ r.2.1, Low t
  one : r.2.2 = 0 → r.1.length = r.2.1.length + 1
  none : r.2.2 ≠ 0 → r.1 = [] ∧ r.2.1 = []

theorem folF_ok {n : Nat} {p : Prob} {d : List Int} (hp : PB n p) (hd : ∀ e ∈ d, e.natAbs ≤ 100) : ∀ (k s : Nat) (sets : List Int) (breaks : List Frac) (before : Frac), sets.length = breaks.length + 1 → breaks.length ≤ 40 → (∀ t ∈ breaks, Low t) → WayOk (folF n p d k s sets breaks before)
  | 0, _, _, _, _, _, _, _ => ⟨by simp [folF], by simp [folF], by simp [folF], by simp [folF], by simp [folF]⟩
  | k + 1, s, sets, breaks, before, h1, h2, h3 => by
    unfold folF
    split
    · exact ⟨by simp; omega, by simp; omega, h3, fun _ => h1, fun g => absurd rfl g⟩
    · split
      · exact ⟨by simp, by simp, by simp, by simp, by simp⟩
      · split
        · exact ⟨by simp, by simp, by simp, by simp, by simp⟩
        · split
          · exact ⟨by simp, by simp, by simp, by simp, by simp⟩
          · split
            · exact ⟨by simp, by simp, by simp, by simp, by simp⟩
            · refine folF_ok hp hd k _ _ _ _ (by simp; omega) (by simp; omega) fun t ht => ?_
              rcases List.mem_append.1 ht with g | g
              · exact h3 t g
              · rw [List.mem_singleton] at g
                rw [g]
                exact bk_low (wayN_abs hp hp.q) (wayN_abs hp hd) n

theorem wayR_ok {n : Nat} {p : Prob} {d : List Int} (hp : PB n p) (hd : ∀ e ∈ d, e.natAbs ≤ 100) : WayOk (wayR n p d) := by
  unfold wayR
  split
  · exact folF_ok hp hd _ _ _ _ _ rfl (by simp) (by simp)
  · exact ⟨by simp, by simp, by simp, by simp, by simp⟩

theorem folRes_ok (p : Prob) (d : List Int) : WayOk (folRes p d) := by
  unfold folRes
  split
  · rename_i h
    split
    · rename_i h2
      exact wayR_ok (PB.of h) (dirOk_iff h2).2
    · exact ⟨by simp, by simp, by simp, by simp, by simp⟩
  · exact ⟨by simp, by simp, by simp, by simp, by simp⟩

theorem folRes_sz (p : Prob) (d : List Int) : szS (folRes p d).1 ≤ 1048576 := by
  rw [szS_len]
  have := (folRes_ok p d).sets
  omega
theorem folRes_sz2 (p : Prob) (d : List Int) : szFS (folRes p d).2.1 ≤ 1048576 := by
  rw [szFS_len]
  have := (folRes_ok p d).breaks
  omega

theorem bk_none {a b : List Int} {before : Frac} (h : ∀ e ∈ b, 0 ≤ e) : ∀ i, bkTo a b before i = ((0, 1), [])
  | 0 => rfl
  | i + 1 => by
    rw [bkTo, if_neg, bk_none h i]
    unfold canOk
    rw [Bool.and_eq_true, decide_eq_true_iff]
    intro g
    have : 0 ≤ b.getD i 0 := by
      rw [List.getD_eq_getElem?_getD]
      cases e : b[i]? with
      | none => simp
      | some x => exact h x (List.mem_of_getElem? e)
    omega

/-- The one number that becomes 0. -/
theorem bk_one {a b : List Int} {before : Frac} {n : Nat} (h0 : (bkTo a b before n).2 ≠ []) (h1 : ¬ 1 < (bkTo a b before n).2.length) : ∃ i : Nat, i < n ∧ (bkTo a b before n).2 = [(i : Int)] := by
  cases e : (bkTo a b before n).2 with
  | nil => exact absurd e h0
  | cons x l =>
    rw [e] at h1
    have hl : l = [] := List.eq_nil_of_length_eq_zero (by simp only [List.length_cons] at h1; omega)
    subst hl
    have := bk_mem (a := a) (b := b) (before := before) n x (by rw [e]; simp)
    exact ⟨x.toNat, by omega, by rw [show ((x.toNat : Nat) : Int) = x by omega]⟩

end Go.Proofs.Ythfcodelpebjcaa

/-! The contracts of the program's FollowProblem and SetAt. No condition. -/
namespace Go.Proofs.Ythfcodelpebjcaa
open Go.Ab

/- (loop.example/g01343/impl.Problem).first -/
def f81.w (Q : Post) (p_0 : Value) (H : Heap) : Prop :=
  W.box p_0 27 H fun v1 H =>
  W.getN 2 v1 H fun v2 H =>
  W.call Try.prog (.func (.func 18) #[] #[]) #[v2] H fun v3 H =>
  W.extract 0 v3 H fun v4 H =>
  W.extract 1 v3 H fun v5 H =>
  W.len v4 H fun v6 H =>
  W.bin .neq v6 (.int .i64 1) H fun v7 H =>
  W.cond v7 H
  (fun H => Q (.tuple #[(.int .i64 0), (.bool false)]) H)
  (fun H => W.getN 2 v1 H fun v8 H =>
   W.indexAddr 1 v4 (.int .i64 0) H fun v9 H =>
   W.get v9 H fun v10 H =>
   W.callQ Try.prog (.func (.func 37) #[] #[]) #[v8, v10] H fun v11 H =>
   W.extract 0 v11 H fun v12 H =>
   W.extract 1 v11 H fun v13 H =>
   W.extract 2 v11 H fun v14 H =>
   W.indexAddr 1 v4 (.int .i64 0) H fun v15 H =>
   W.get v15 H fun v16 H =>
   W.callQ Try.prog (.func (.func 70) #[] #[]) #[v12, (.int .i64 0)] H fun v17 H =>
   W.un .not v17 H fun v18 H =>
   Q (.tuple #[v16, v18]) H)
theorem f81.enter {Q : Post} {p_0 : Value} {H : Heap} (h : f81.w Q p_0 H) : Runs Try.prog 81 #[p_0] H Q :=
  fn_enter (ann := []) (by kernel_rfl) Try.func81 rfl (by kernel_rfl) h (by kernel_rfl)

/- (loop.example/g01343/impl.Problem).follow -/
def f49.l1 (Q : Post) (v9 : Value) (v1 : Value) (d_1 : Value) (I1 : St [7, 9, 11, 12, 15] → Heap → Prop) (s_7 : Value) (sets_9 : Value) (breaks_11 : Value) (a_12 : Value) (b_15 : Value) (H : Heap) : Prop :=
  W.call Try.prog (.func (.func 44) #[] #[]) #[b_15] H fun v20 H =>
  W.un .not v20 H fun v21 H =>
  W.cond v21 H
  (fun H => W.getN 2 v9 H fun v22 H =>
   W.call Try.prog (.func (.func 82) #[] #[]) #[a_12, b_15, v22] H fun v23 H =>
   W.extract 0 v23 H fun v24 H =>
   W.extract 1 v23 H fun v25 H =>
   W.extract 2 v23 H fun v26 H =>
   W.new [(.int .i64 0), (.int .i64 0)] 50 H fun v27 H =>
   W.putN 2 v27 v24 H fun _ H =>
   W.un .not v26 H fun v28 H =>
   W.cond v28 H
   (fun H => Q (.tuple #[sets_9, breaks_11, (.int .i64 0)]) H)
   (fun H => W.len v25 H fun v29 H =>
    W.bin .gtr v29 (.int .i64 1) H fun v30 H =>
    W.cond v30 H
    (fun H => Q (.tuple #[(.slice none 0 0), (.slice none 0 0), (.int .i64 5)]) H)
    (fun H => W.len breaks_11 H fun v31 H =>
     W.bin .eql v31 (.int .i64 40) H fun v32 H =>
     W.cond v32 H
     (fun H => Q (.tuple #[(.slice none 0 0), (.slice none 0 0), (.int .i64 3)]) H)
     (fun H => W.indexAddr 1 v25 (.int .i64 0) H fun v33 H =>
      W.get v33 H fun v34 H =>
      W.bin .shl (.int .i64 1) v34 H fun v35 H =>
      W.bin .xor s_7 v35 H fun v36 H =>
      W.getN 2 v1 H fun v37 H =>
      W.call Try.prog (.func (.func 37) #[] #[]) #[v37, v36] H fun v38 H =>
      W.extract 0 v38 H fun v39 H =>
      W.extract 1 v38 H fun v40 H =>
      W.extract 2 v38 H fun v41 H =>
      W.un .not v41 H fun v42 H =>
      W.cond v42 H
      (fun H => Q (.tuple #[(.slice none 0 0), (.slice none 0 0), (.int .i64 5)]) H)
      (fun H => W.getN 2 v1 H fun v43 H =>
       W.call Try.prog (.func (.func 57) #[] #[]) #[v43, v36, d_1] H fun v44 H =>
       W.extract 0 v44 H fun v45 H =>
       W.extract 1 v44 H fun v46 H =>
       W.extract 2 v44 H fun v47 H =>
       W.indexAddr 1 v25 (.int .i64 0) H fun v48 H =>
       W.get v48 H fun v49 H =>
       W.indexAddr 1 v45 v49 H fun v50 H =>
       W.get v50 H fun v51 H =>
       W.bin .leq v51 (.int .i64 0) H fun v52 H =>
       W.cond v52 H
       (fun H => Q (.tuple #[(.slice none 0 0), (.slice none 0 0), (.int .i64 5)]) H)
       (fun H => W.getN 2 v27 H fun v53 H =>
        W.call Try.prog (.func (.func 83) #[] #[]) #[v53] H fun v54 H =>
        W.un .not v54 H fun v55 H =>
        W.cond v55 H
        (fun H => Q (.tuple #[(.slice none 0 0), (.slice none 0 0), (.int .i64 3)]) H)
        (fun H => W.lit 1 [(.int .i64 0)] 2 [(0, 1, v36)] H fun v56 H =>
         (fun Hk3 => W.append 1 2 sets_9 v56 H fun v57 H =>
         W.getN 2 v27 H fun v58 H =>
         W.chk (fun H k => W.getN 2 v27 H k) v58 Hk3 (W.lit 1 [(.int .i64 0), (.int .i64 0)] 50 [(0, 2, v58)] H fun v59 H =>
         (fun Hk7 => W.append 2 50 breaks_11 v59 H fun v60 H =>
         W.getN 2 v27 H fun v61 H =>
         W.chk (fun H k => W.getN 2 v27 H k) v61 Hk7 (W.chk (fun H k => W.getN 2 v27 H k) v61 Hk3 (W.putN 2 v9 v61 H fun _ H =>
         W.flat [v58] H fun H =>
         I1 (v36, v57, v60, v39, v45, ()) H))) H)) H)))))))
  (fun H => Q (.tuple #[sets_9, breaks_11, (.int .i64 0)]) H)
def f49.w (Q : Post) (p_0 : Value) (d_1 : Value) (H : Heap) : Prop :=
  W.box p_0 27 H fun v1 H =>
  W.getN 2 v1 H fun v2 H =>
  W.call Try.prog (.func (.func 81) #[] #[]) #[v2] H fun v3 H =>
  W.extract 0 v3 H fun v4 H =>
  W.extract 1 v3 H fun v5 H =>
  W.un .not v5 H fun v6 H =>
  W.cond v6 H
  (fun H => Q (.tuple #[(.slice none 0 0), (.slice none 0 0), (.int .i64 5)]) H)
  (fun H => W.lit 1 [(.int .i64 0)] 2 [(0, 1, v4)] H fun v7 H =>
   W.build [(.int .i64 0), (.int .i64 0)] [(0, 1, (.int .i64 0)), (1, 1, (.int .i64 1))] H fun v8 H =>
   W.new [(.int .i64 0), (.int .i64 0)] 50 H fun v9 H =>
   W.putN 2 v9 v8 H fun _ H =>
   W.getN 2 v1 H fun v10 H =>
   W.call Try.prog (.func (.func 37) #[] #[]) #[v10, v4] H fun v11 H =>
   W.extract 0 v11 H fun v12 H =>
   W.extract 1 v11 H fun v13 H =>
   W.extract 2 v11 H fun v14 H =>
   W.getN 2 v1 H fun v15 H =>
   W.call Try.prog (.func (.func 57) #[] #[]) #[v15, v4, d_1] H fun v16 H =>
   W.extract 0 v16 H fun v17 H =>
   W.extract 1 v16 H fun v18 H =>
   W.extract 2 v16 H fun v19 H =>
   W.loop (S := St [7, 9, 11, 12, 15]) (fun I1 s H => f49.l1 Q v9 v1 d_1 I1 s.1 s.2.1 s.2.2.1 s.2.2.2.1 s.2.2.2.2.1 H) (v4, v7, (.slice none 0 0), v12, v17, ()) H)
theorem f49.enter {Q : Post} {p_0 : Value} {d_1 : Value} {H : Heap} (h : f49.w Q p_0 d_1 H) : Runs Try.prog 49 #[p_0, d_1] H Q :=
  fn_enter (ann := [(8, [7, 9, 11, 12, 15])]) (by kernel_rfl) Try.func49 rfl (by kernel_rfl) h (by kernel_rfl)

/- loop.example/g01343/impl.FollowProblem -/
def f21.w (Q : Post) (p_0 : Value) (d_1 : Value) (H : Heap) : Prop :=
  W.box p_0 27 H fun v1 H =>
  W.getN 2 v1 H fun v2 H =>
  W.call Try.prog (.func (.func 47) #[] #[]) #[v2] H fun v3 H =>
  W.un .not v3 H fun v4 H =>
  W.cond v4 H
  (fun H => Q (.tuple #[(.slice none 0 0), (.slice none 0 0), (.int .i64 1)]) H)
  (fun H => W.fieldAddr 1 v1 H fun v5 H =>
   W.get v5 H fun v6 H =>
   W.len v6 H fun v7 H =>
   W.call Try.prog (.func (.func 48) #[] #[]) #[d_1, v7] H fun v8 H =>
   W.un .not v8 H fun v9 H =>
   W.cond v9 H
   (fun H => Q (.tuple #[(.slice none 0 0), (.slice none 0 0), (.int .i64 2)]) H)
   (fun H => W.getN 2 v1 H fun v10 H =>
    W.call Try.prog (.func (.func 49) #[] #[]) #[v10, d_1] H fun v11 H =>
    W.extract 0 v11 H fun v12 H =>
    W.extract 1 v11 H fun v13 H =>
    W.extract 2 v11 H fun v14 H =>
    Q (.tuple #[v12, v13, v14]) H))
theorem f21.enter {Q : Post} {p_0 : Value} {d_1 : Value} {H : Heap} (h : f21.w Q p_0 d_1 H) : Runs Try.prog 21 #[p_0, d_1] H Q :=
  fn_enter (ann := []) (by kernel_rfl) Try.func21 rfl (by kernel_rfl) h (by kernel_rfl)

/- loop.example/g01343/impl.SetAt -/
def f28.l1 (Q : Post) (v18 : Value) (v2 : Value) (v17 : Value) (I1 : St [11] → Heap → Prop) (i_11 : Value) (H : Heap) : Prop :=
  W.len v18 H fun v21 H =>
  W.bin .lss i_11 v21 H fun v22 H =>
  W.guarded v22 true (fun H k => k v18 H) H fun v23 H =>
  W.guarded v22 true (fun H k => k i_11 H) H fun v24 H =>
  W.guarded v22 true (fun H k => W.indexAddr 2 v23 v24 H k) H fun v25 H =>
  W.guarded v22 true (fun H k => W.getN 2 v25 H k) H fun v26 H =>
  W.guarded v22 true (fun H k => W.getN 2 v2 H k) H fun v27 H =>
  W.guarded v22 true (fun H k => W.callQ Try.prog (.func (.func 64) #[] #[]) #[v26, v27] H k) H fun v28 H =>
  W.guarded v22 true (fun H k => W.bin .leq v28 (.int .i64 0) H k) H fun v29 H =>
  W.pick v22 v29 (.bool false) H fun v30 H =>
  W.cond v30 H
  (fun H => W.bin .add i_11 (.int .i64 1) H fun v31 H =>
   I1 (v31, ()) H)
  (fun H => W.indexAddr 1 v17 i_11 H fun v32 H =>
   W.get v32 H fun v33 H =>
   Q (.tuple #[v33, (.int .i64 0)]) H)
def f28.w (Q : Post) (p_0 : Value) (d_1 : Value) (t_2 : Value) (H : Heap) : Prop :=
  W.box p_0 27 H fun v1 H =>
  W.box t_2 50 H fun v2 H =>
  W.getN 2 v1 H fun v3 H =>
  W.call Try.prog (.func (.func 47) #[] #[]) #[v3] H fun v4 H =>
  W.un .not v4 H fun v5 H =>
  W.cond v5 H
  (fun H => Q (.tuple #[(.int .i64 0), (.int .i64 1)]) H)
  (fun H => W.fieldAddr 1 v1 H fun v6 H =>
   W.get v6 H fun v7 H =>
   W.len v7 H fun v8 H =>
   W.call Try.prog (.func (.func 48) #[] #[]) #[d_1, v8] H fun v9 H =>
   W.un .not v9 H fun v10 H =>
   W.guarded v10 false (fun H k => W.getN 2 v2 H k) H fun v11 H =>
   W.guarded v10 false (fun H k => W.call Try.prog (.func (.func 56) #[] #[]) #[v11] H k) H fun v12 H =>
   W.guarded v10 false (fun H k => W.un .not v12 H k) H fun v13 H =>
   W.pick v10 (.bool true) v13 H fun v14 H =>
   W.cond v14 H
   (fun H => Q (.tuple #[(.int .i64 0), (.int .i64 2)]) H)
   (fun H => W.getN 2 v1 H fun v15 H =>
    W.call Try.prog (.func (.func 49) #[] #[]) #[v15, d_1] H fun v16 H =>
    W.extract 0 v16 H fun v17 H =>
    W.extract 1 v16 H fun v18 H =>
    W.extract 2 v16 H fun v19 H =>
    W.bin .neq v19 (.int .i64 0) H fun v20 H =>
    W.cond v20 H
    (fun H => Q (.tuple #[(.int .i64 0), v19]) H)
    (fun H => W.loop (S := St [11]) (fun I1 s H => f28.l1 Q v18 v2 v17 I1 s.1 H) ((.int .i64 0), ()) H)))
theorem f28.enter {Q : Post} {p_0 : Value} {d_1 : Value} {t_2 : Value} {H : Heap} (h : f28.w Q p_0 d_1 t_2 H) : Runs Try.prog 28 #[p_0, d_1, t_2] H Q :=
  fn_enter (ann := [(9, [11])]) (by kernel_rfl) Try.func28 rfl (by kernel_rfl) h (by kernel_rfl)


theorem covL_one {n : Nat} {p : Prob} : (covL n p).length = (covN n p).length := by rw [covL_map, List.length_map]

theorem fn81 {H0 : Heap} {Q : Post} {cs : List Value} {p : Prob} (hr : Has RProblem H0 cs p) (hp : isProb p = true)
    (h1 : firstS p.2.length p = none → ∀ H' x, H0.Le H' → Q (.tuple #[.int .i64 x, .bool false]) H')
    (h2 : ∀ s, firstS p.2.length p = some s → s < 2 ^ p.2.length → det p.2.length (mAt (colL p.2.length p.1 s)) ≠ 0 → ∀ H', H0.Le H' → Q (.tuple #[.int .i64 (s : Nat), .bool true]) H') : Runs Try.prog 81 #[.agg cs.toArray] H0 Q := by
  obtain ⟨u1, u2, rfl, r1, r2⟩ := hasProb hr
  have hpb := PB.of hp
  have hn := hpb.n5
  have h32 := pow5 hn
  have h := (Loc.start H0).lent hr
  refine f81.enter (Wl.box h fun H b h => Wl.getA h rfl (Wi.call (fn18 (h.rd (cs := [u1, u2])) fun H u f => ?_)))
  simp only [gw]
  have h := h.add f
  have e : cvRes p = (covL p.2.length p, 0) := by unfold cvRes; rw [hp]; rfl
  rw [e] at h
  dsimp only at h
  have hl := covL_one (n := p.2.length) (p := p)
  refine Wl.len h (Wi.neqC (fun hne => Wi.tru ?_) fun he => Wi.fls ?_)
  · refine h1 ?_ _ _ h.le
    unfold firstS
    rw [if_neg]
    rintro ⟨g, _⟩
    omega
  have hlen : (covN p.2.length p).length = 1 := by omega
  have h0 : 0 < (covN p.2.length p).length := by omega
  obtain ⟨s1, s2⟩ := covN_at h0
  obtain ⟨hD, _⟩ := covB_split s2
  have ev : (covL p.2.length p)[0]'(by omega) = ((covN p.2.length p)[0] : Nat) := by simp only [covL_map, List.getElem_map]
  have ed : (covN p.2.length p).getD 0 0 = (covN p.2.length p)[0] := by simp [h0]
  refine Wl.getA h rfl (Wl.atInt h (i := 0) (by omega) fun _ => ?_)
  rw [ev]
  generalize hs : (covN p.2.length p)[0] = s at *
  refine Wi.callQ (fn37 (h.rd (cs := [u1, u2])) hpb (by omega) (fun g => absurd g hD) fun _ H w f => ⟨f.le, ?_⟩)
  simp only [gw]
  have h := h.add f
  refine Wl.atInt h (i := 0) (by omega) fun _ => ?_
  rw [ev]
  obtain ⟨_, q⟩ := h.rd (cs := [w])
  refine Wi.callQ (fn70 q ⟨.refl _, ?_⟩)
  show W.un .not (.bool (zeroB p.2.length p s)) _ _
  cases hz : zeroB p.2.length p s with
  | true =>
    simp only [gw]
    refine h1 ?_ _ _ h.le
    unfold firstS
    rw [if_neg]
    rintro ⟨_, g⟩
    rw [ed, hz] at g
    cases g
  | false =>
    simp only [gw]
    refine h2 s ?_ s1 hD _ h.le
    unfold firstS
    rw [ed, if_pos ⟨hlen, hz⟩]

theorem fn49 {H0 : Heap} {Q : Post} {cs : List Value} {vd : Value} {p : Prob} {d : List Int} (hr : Has RProblem H0 cs p) (hd : Has RS H0 [vd] d) (hp : isProb p = true) (hdk : dirOk p.2.length d = true)
    (hQ : ∀ H' u w, Fresh (RS.pair RFS) H0 [u, w] ((wayR p.2.length p d).1, (wayR p.2.length p d).2.1) H' → Q (.tuple #[u, w, .int .i64 (wayR p.2.length p d).2.2]) H') : Runs Try.prog 49 #[.agg cs.toArray, vd] H0 Q := by
  obtain ⟨u1, u2, rfl, r1, r2⟩ := hasProb hr
  have hpb := PB.of hp
  have hn := hpb.n5
  have h32 := pow5 hn
  obtain ⟨hdl, hdb⟩ := dirOk_iff hdk
  have hz : ∀ H c, H0.Le H → wayR p.2.length p d = ([], [], c) → Q (.tuple #[.slice none 0 0, .slice none 0 0, .int .i64 c]) H := fun H c l e => by
    have := hQ H (.slice none 0 0) (.slice none 0 0) (by rw [e]; exact fresh_nil2 l)
    rw [e] at this
    exact this
  have h := ((Loc.start H0).lent hd).lent hr
  refine f49.enter ?_
  unfold f49.w
  refine Wl.box h fun H b h => Wl.getA h rfl (Wi.call (fn81 (h.rd (cs := [u1, u2])) hp (fun e H x l => ?_) fun s e hs hD H l => ?_))
  · simp only [gw]
    exact hz _ _ (h.to l).le (by unfold wayR; rw [e])
  have h := h.to l
  simp only [gw]
  have hR : wayR p.2.length p d = folF p.2.length p d 41 s [(s : Int)] [] (0, 1) := by unfold wayR; rw [e]
  generalize hRR : wayR p.2.length p d = R at *
  generalize hnn : p.2.length = n at *
  refine Wl.lit1 (r := Rd.int) (ty := 2) (x := (s : Int)) rfl rfl rfl (fun _ => ⟨rfl, rfl, by unfold I64; omega⟩) h fun H u h => ?_
  refine Wi.build (cells := frC (0, 1)) rfl (Wl.new h fun H b9 h => Wl.putA h rfl rfl rfl fun H h => Wl.getA h rfl ?_)
  have h := h.nilG RFrac 50
  refine Wi.call (fn37 (h.rd (cs := [u1, u2])) hpb (by omega) (fun g => absurd g hD) fun _ H va f => ?_)
  have h := h.add f
  simp only [gw]
  refine Wl.getA h rfl (Wi.call (fn57 (h.rd (cs := [u1, u2])) hpb (by omega) (h.rd (cs := [vd])) hdl hdb (fun g => absurd g hD) fun _ H vb f => ?_))
  have h := h.add f
  simp only [gw]
  refine W.for_rule 40 (fun i st H => ∃ (s : Nat) (sets : List Int) (breaks : List Frac) (before : Frac) (u v va vb : Value), st = (.int .i64 (s : Nat), u, v, va, vb, ()) ∧ breaks.length = i ∧ sets.length = i + 1 ∧ s < 2 ^ n ∧ Low before ∧ folF n p d (41 - i) s sets breaks before = R ∧
    Ab.Loc H0 [.data RS [vb] (wayN n p d s), .data RS [va] (wayN n p p.2 s), .grow RFrac 50 v breaks, .box b9 (frC before), .grow Rd.int 2 u sets, .box b [u1, u2], .lent RProblem [u1, u2] p, .lent RS [vd] d] H)
    ⟨s, [(s : Int)], [], (0, 1), u, _, va, vb, rfl, rfl, rfl, hs, ⟨by decide, by decide, rfl⟩, hR.symm, h⟩ ?_
  clear h hR
  rintro i st H J hi ⟨s, sets, breaks, before, u, v, va, vb, rfl, hbl, hsl, hs, hlow, hR, h⟩ hJ
  have la := wayN_len n p p.2 s
  have lb := wayN_len n p d s
  have ba := wayN_abs (s := s) hpb hpb.q
  have bb := wayN_abs (s := s) hpb hdb
  rw [show 41 - i = (40 - i) + 1 by omega, folF] at hR
  refine Wi.call (fn44 (h.rd (cs := [vb])) fun H t l ht => ?_)
  have h := h.to l
  -- what was found so far
  have done : ∀ H, (bkTo (wayN n p p.2 s) (wayN n p d s) before n).2 = [] → Ab.Loc H0 [.data RS [vb] (wayN n p d s), .data RS [va] (wayN n p p.2 s), .grow RFrac 50 v breaks, .box b9 (frC before), .grow Rd.int 2 u sets, .box b [u1, u2], .lent RProblem [u1, u2] p, .lent RS [vd] d] H →
      Q (.tuple #[u, v, .int .i64 0]) H := fun H e h => by
    rw [if_pos e] at hR
    subst hR
    exact hQ _ u v (Loc.ret2 ((h.asData (i := 2) rfl).asData (i := 4) rfl) (i := 4) (j := 2) rfl rfl (by decide))
  cases t with
  | true =>
    simp only [gw]
    exact done _ (by rw [bk_none (ht.1 rfl)]) h
  | false =>
  simp only [gw]
  refine Wl.getA h rfl (Wi.call (fn82 (h.rd (cs := [va])) (h.rd (cs := [vb])) (by rw [la, lb]) (by omega) ba bb hlow fun H w t f hft => ?_))
  have hbkl := bk_low (before := before) ba bb n
  have hone := bk_one (a := wayN n p p.2 s) (b := wayN n p d s) (before := before) (n := n)
  rw [lb] at f hft
  rw [lb]
  have h := h.add f
  simp only [gw]
  refine Wl.new h fun H bt h => Wl.putA h rfl rfl rfl fun H h => ?_
  generalize hbk : bkTo (wayN n p p.2 s) (wayN n p d s) before n = bk at *
  by_cases h0 : bk.2 = []
  · have e0 : decide (0 < bk.2.length) = false := by rw [h0]; rfl
    rw [e0]
    simp only [gw]
    exact done _ h0 ((h.cut 0).cut 0)
  clear done
  have et := hft h0
  subst et
  have hpos : 0 < bk.2.length := List.length_pos_iff.2 h0
  rw [decide_eq_true hpos]
  simp only [gw]
  rw [if_neg h0] at hR
  refine Wl.len h (Wi.gtrC (fun hg => Wi.tru ?_) fun hng => Wi.fls ?_)
  · rw [if_pos (by omega)] at hR
    exact hz _ _ h.le hR.symm
  have h1 : ¬ 1 < bk.2.length := by omega
  rw [if_neg h1] at hR
  refine Wl.len h (Wi.eqlC (fun he => Wi.tru ?_) fun hne => Wi.fls ?_)
  · rw [if_pos (by omega)] at hR
    exact hz _ _ h.le hR.symm
  rw [if_neg (by omega)] at hR
  obtain ⟨k, hk, ek⟩ := hone h0 h1
  have e1 : bk.2.getD 0 0 = (k : Int) := by rw [ek]; rfl
  have e2 : bk.2[0] = (k : Int) := by simp [ek]
  rw [e1, Int.toNat_natCast] at hR
  refine Wl.atInt h (i := 0) hpos fun _ => ?_
  rw [e2]
  have hs2 : s ^^^ 2 ^ k < 2 ^ n := Nat.xor_lt_two_pow hs (Nat.pow_lt_pow_right (by decide) hk)
  have hk2 : 2 ^ k < 2 ^ n := Nat.pow_lt_pow_right (by decide) hk
  refine Wi.shl1 (by omega) (Wi.xorN (by omega) (by omega) (Wl.getA h rfl ?_))
  generalize hss : s ^^^ 2 ^ k = s2 at *
  refine Wi.call (fn37 (h.rd (cs := [u1, u2])) hpb (by omega) (fun hD H l => ?_) fun hD H va2 f => ?_)
  · simp only [gw]
    rw [if_pos hD] at hR
    exact hz _ _ (h.to l).le hR.symm
  have h := h.add f
  simp only [gw]
  rw [if_neg hD] at hR
  refine Wl.getA h rfl (Wi.call (fn57 (h.rd (cs := [u1, u2])) hpb (by omega) (h.rd (cs := [vd])) hdl hdb (fun g => absurd g hD) fun _ H vb2 f => ?_))
  have h := h.add f
  simp only [gw]
  have lb2 := wayN_len n p d s2
  change Ab.Loc H0 (.data RS [vb2] (wayN n p d s2) :: .data RS [va2] (wayN n p p.2 s2) :: _) H at h
  have hkl : k < (wayN n p d s2).length := by omega
  have ekb : (wayN n p d s2).getD k 0 = (wayN n p d s2)[k] := by simp [hkl]
  refine Wl.atInt h (i := 0) hpos fun _ => ?_
  rw [e2]
  refine Wl.atInt h hkl fun _ => Wi.leqC (fun hle => Wi.tru ?_) fun hgt => Wi.fls ?_
  · rw [if_pos (by rw [ekb]; exact hle)] at hR
    exact hz _ _ h.le hR.symm
  rw [if_neg (by rw [ekb]; exact hgt)] at hR
  refine Wl.getA h rfl (Wi.call (fn83 fun H l => ?_))
  have h := h.to l
  rw [low_fr hbkl]
  simp only [gw]
  have i1 := i64_low hbkl
  refine Wl.pushPK (r := Rd.int) (x := (s2 : Int)) (i := 8) rfl rfl rfl (fun _ => ⟨rfl, rfl, by unfold I64; omega⟩) h (by omega) fun H1 H u' hk1 h => ?_
  change Ab.Loc H0 [.data RS [vb2] (wayN n p d s2), .data RS [va2] (wayN n p p.2 s2), .box bt (frC bk.1), .data RS [w] bk.2, .data RS [vb] (wayN n p d s), .data RS [va] (wayN n p p.2 s), .grow RFrac 50 v breaks, .box b9 (frC before), .grow Rd.int 2 u' (sets ++ [(s2 : Int)]), .box b [u1, u2], .lent RProblem [u1, u2] p, .lent RS [vd] d] H at h
  refine Wl.getA h rfl (Wi.chk (Wl.getA hk1 rfl ⟨rfl, rfl⟩) ?_)
  refine Wl.pushPK (r := RFrac) (x := bk.1) (i := 6) rfl rfl rfl (fun H => frac_rel i1 H) h (by omega) fun H2 H v' hk2 h => ?_
  change Ab.Loc H0 [.data RS [vb2] (wayN n p d s2), .data RS [va2] (wayN n p p.2 s2), .box bt (frC bk.1), .data RS [w] bk.2, .data RS [vb] (wayN n p d s), .data RS [va] (wayN n p p.2 s), .grow RFrac 50 v' (breaks ++ [bk.1]), .box b9 (frC before), .grow Rd.int 2 u' (sets ++ [(s2 : Int)]), .box b [u1, u2], .lent RProblem [u1, u2] p, .lent RS [vd] d] H at h
  refine Wl.getA h rfl (Wi.chk (Wl.getA hk2 rfl ⟨rfl, rfl⟩) (Wi.chk (Wl.getA hk1 rfl ⟨rfl, rfl⟩) (Wl.putA (b := b9) h rfl rfl rfl fun H h => Wi.flat rfl ?_)))
  refine hJ _ _ (by omega) ⟨s2, sets ++ [(s2 : Int)], breaks ++ [bk.1], bk.1, u', v', va2, vb2, rfl, by simp; omega, by simp; omega, hs2, hbkl, by rw [show 41 - (i + 1) = 40 - i by omega]; exact hR, (((h.cut 2).cut 2).cut 2).cut 2⟩

theorem fn21 {H0 : Heap} {Q : Post} {cs : List Value} {vd : Value} {p : Prob} {d : List Int} (hr : Has RProblem H0 cs p) (hd : Has RS H0 [vd] d) (_ : wProblem p ≤ 1048576) (_ : d.length ≤ 1048576)
    (hQ : ∀ H' u w, Fresh (RS.pair RFS) H0 [u, w] ((folRes p d).1, (folRes p d).2.1) H' → Q (.tuple #[u, w, .int .i64 (folRes p d).2.2]) H') : Runs Try.prog 21 #[.agg cs.toArray, vd] H0 Q := by
  obtain ⟨u1, u2, rfl, r1, r2⟩ := hasProb hr
  have hz : ∀ H c, H0.Le H → folRes p d = ([], [], c) → Q (.tuple #[.slice none 0 0, .slice none 0 0, .int .i64 c]) H := fun H c l e => by
    have := hQ H (.slice none 0 0) (.slice none 0 0) (by rw [e]; exact fresh_nil2 l)
    rw [e] at this
    exact this
  have h := (((Loc.start H0).lent r2).lent hd).lent hr
  refine f21.enter (Wl.box h fun H b h => Wl.getA h rfl ?_)
  obtain ⟨_, q⟩ := h.rd (cs := [u1, u2])
  refine Wi.call (fn47 q fun H l => ?_)
  have h := h.to l
  cases hp : isProb p with
  | false =>
    simp only [gw]
    exact hz _ _ h.le (by unfold folRes; rw [hp]; rfl)
  | true =>
  have hn := (PB.of hp).n5
  simp only [gw]
  refine Wi.fieldAddr (Wl.get h rfl (Wl.len h (Wi.call (fn48 (h.rd (cs := [vd])) hn fun H l => ?_))))
  have h := h.to l
  cases hdk : dirOk p.2.length d with
  | false =>
    simp only [gw]
    exact hz _ _ h.le (by unfold folRes; rw [hp, hdk]; rfl)
  | true =>
  simp only [gw]
  have e : folRes p d = wayR p.2.length p d := by unfold folRes; rw [hp, hdk]; rfl
  rw [e] at hQ
  refine Wl.getA h rfl (Wi.call (fn49 (h.rd (cs := [u1, u2])) (h.rd (cs := [vd])) hp hdk fun H u w f => ?_))
  simp only [gw]
  exact hQ _ _ _ ((h.add f).ret (i := 0) rfl)

/-- How many breakpoints do not lie behind a parameter. -/
def atF (breaks : List Frac) (t : Frac) : Nat := (breaks.takeWhile fun b => !fLt t b).length

theorem take_while {α : Type} {q : α → Bool} : ∀ {l : List α} {i : Nat}, (∀ j (h : j < l.length), j < i → q l[j] = true) → i ≤ l.length → (∀ h : i < l.length, q l[i] = false) → (l.takeWhile q).length = i
  | [], i, _, h, _ => by simp at h; simp [h]
  | x :: l, 0, _, _, h => by
    have := h (by simp)
    simp at this
    simp [List.takeWhile, this]
  | x :: l, i + 1, h1, h2, h3 => by
    have h0 := h1 0 (by simp) (by omega)
    simp at h0
    have := take_while (q := q) (l := l) (i := i) (fun j hj hji => by
      have := h1 (j + 1) (by simp; omega) (by omega)
      simpa using this) (by simp at h2; omega) (fun h => by
      have := h3 (by simp; omega)
      simpa using this)
    simp [List.takeWhile, h0, this]

def saRes (p : Prob) (d : List Int) (t : Frac) : Int × Int :=
  if isProb p = true then (if dirOk p.2.length d = true ∧ timeOk t = true then (if (wayR p.2.length p d).2.2 = 0 then ((wayR p.2.length p d).1.getD (atF (wayR p.2.length p d).2.1 t) 0, 0) else (0, (wayR p.2.length p d).2.2)) else (0, 2)) else (0, 1)

theorem timeMul {t b : Frac} (ht : (0 ≤ t.1 ∧ t.1 ≤ 1000) ∧ (1 ≤ t.2 ∧ t.2 ≤ 1000)) (hb : Low b) : (b.1 * t.2).natAbs ≤ 768000000 * 1000 ∧ (t.1 * b.2).natAbs ≤ 1000 * 768000000 :=
  ⟨mulA hb.2.1 (by omega), mulA (by omega) (by have := hb.1; omega)⟩

theorem fn28 {H0 : Heap} {Q : Post} {cs ct : List Value} {vd : Value} {p : Prob} {d : List Int} {t : Frac} (hr : Has RProblem H0 cs p) (hd : Has RS H0 [vd] d) (ht : Has RFrac H0 ct t) (_ : wProblem p ≤ 1048576) (_ : d.length ≤ 1048576)
    (hQ : ∀ H', H0.Le H' → Q (.tuple #[.int .i64 (saRes p d t).1, .int .i64 (saRes p d t).2]) H') : Runs Try.prog 28 #[.agg cs.toArray, vd, .agg ct.toArray] H0 Q := by
  obtain ⟨rfl, ht1, ht2⟩ := hasFrac ht
  obtain ⟨u1, u2, rfl, r1, r2⟩ := hasProb hr
  have hz : ∀ H a c, H0.Le H → saRes p d t = (a, c) → Q (.tuple #[.int .i64 a, .int .i64 c]) H := fun H a c l e => by
    have := hQ H l
    rw [e] at this
    exact this
  have h := (((Loc.start H0).lent r2).lent hd).lent hr
  refine f28.enter ?_
  unfold f28.w
  refine Wl.box h fun H b h => Wl.box h fun H bt h => Wl.getA h rfl ?_
  obtain ⟨_, q⟩ := h.rd (cs := [u1, u2])
  refine Wi.call (fn47 q fun H l => ?_)
  have h := h.to l
  cases hp : isProb p with
  | false =>
    simp only [gw]
    exact hz _ _ _ h.le (by unfold saRes; rw [hp]; rfl)
  | true =>
  have hpb := PB.of hp
  have hn := hpb.n5
  simp only [gw]
  refine Wi.fieldAddr (Wl.get h rfl (Wl.len h (Wi.call (fn48 (h.rd (cs := [vd])) hn fun H l => ?_))))
  have h := h.to l
  have two : ¬ (dirOk p.2.length d = true ∧ timeOk t = true) → saRes p d t = (0, 2) := fun g => by unfold saRes; rw [if_pos hp, if_neg g]
  cases hdk : dirOk p.2.length d with
  | false =>
    simp only [gw]
    exact hz _ _ _ h.le (two fun g => by rw [hdk] at g; cases g.1)
  | true =>
  simp only [gw]
  refine Wl.getA h rfl (Wi.call (fn56 fun H l => ?_))
  have h := h.to l
  cases htk : timeOk t with
  | false =>
    simp only [gw]
    exact hz _ _ _ h.le (two fun g => by rw [htk] at g; cases g.2)
  | true =>
  simp only [gw]
  obtain ⟨t1, t2, _⟩ := timeOk_iff htk
  have hok := wayR_ok (p := p) (n := p.2.length) hpb (dirOk_iff hdk).2
  have eR : saRes p d t = if (wayR p.2.length p d).2.2 = 0 then ((wayR p.2.length p d).1.getD (atF (wayR p.2.length p d).2.1 t) 0, 0) else (0, (wayR p.2.length p d).2.2) := by
    unfold saRes
    rw [if_pos hp, if_pos ⟨hdk, htk⟩]
  refine Wl.getA h rfl (Wi.call (fn49 (h.rd (cs := [u1, u2])) (h.rd (cs := [vd])) hp hdk fun H u w f => ?_))
  generalize wayR p.2.length p d = R at *
  have h := h.add2 (c1 := [u]) (c2 := [w]) rfl f
  simp only [gw]
  refine Wi.neqC (fun hne => Wi.tru ?_) fun he => Wi.fls ?_
  · exact hz _ _ _ h.le (by rw [eR, if_neg hne])
  rw [if_pos he] at eR
  have hl := hok.one he
  refine W.for_rule R.2.1.length (fun i st H => st = (.int .i64 (i : Nat), ()) ∧ (∀ j (hj : j < R.2.1.length), j < i → (!fLt t R.2.1[j]) = true) ∧ Ab.Loc H0 [.data RS [u] R.1, .data RFS [w] R.2.1, .box bt (frC t), .box b [u1, u2], .lent RProblem [u1, u2] p, .lent RS [vd] d, .lent RS [u2] p.2] H) ⟨rfl, fun j _ hj => by omega, h⟩ ?_
  rintro i st H J hi ⟨rfl, hq, h⟩ hJ
  have fin : ∀ H, (∀ hi : i < R.2.1.length, (!fLt t R.2.1[i]) = false) → Ab.Loc H0 [.data RS [u] R.1, .data RFS [w] R.2.1, .box bt (frC t), .box b [u1, u2], .lent RProblem [u1, u2] p, .lent RS [vd] d, .lent RS [u2] p.2] H → W.indexAddr 1 u (.int .i64 (i : Nat)) H fun p H => W.get p H fun v H => Q (.tuple #[v, .int .i64 0]) H := fun H g h => by
    refine Wl.atInt h (i := i) (by omega) fun _ => hz _ _ _ h.le ?_
    rw [eR]
    have : atF R.2.1 t = i := take_while hq hi g
    rw [this]
    simp [show i < R.1.length by omega]
  refine Wl.len h (Wi.lssC (fun hlt => ?_) fun hge => ?_)
  · have hil : i < R.2.1.length := by omega
    simp only [gw]
    have hb := hok.low _ (List.getElem_mem hil)
    have hm := timeMul ⟨t1, t2⟩ hb
    refine Wl.atFr h hil fun _ _ => Wl.getA h rfl (Wi.callQ (fn64 hm.1 hm.2 (by decide) fun H l => ⟨l, ?_⟩))
    have h := h.to l
    refine Wi.leqC (fun hle => ?_) fun hgt => ?_
    · rw [sgI_pos'] at hle
      simp only [gw]
      have hb2 := hok.breaks
      refine Wi.add (by unfold I64; omega) (hJ _ _ hil ⟨rfl, fun j hj hji => ?_, h⟩)
      by_cases e : j = i
      · subst e
        unfold fLt
        rw [decide_eq_false (by omega)]
        rfl
      · exact hq j hj (by omega)
    · rw [sgI_pos'] at hgt
      simp only [gw]
      refine fin _ (fun _ => ?_) h
      unfold fLt
      rw [decide_eq_true (by omega)]
      rfl
  · simp only [gw]
    exact fin _ (fun g => by omega) h

end Go.Proofs.Ythfcodelpebjcaa

/-! The contracts of the reference's FollowProblem and SetAt. No condition. -/
namespace Go.Proofs.Ythfcodelpebjcaa
open Go.Ab

/- loop.example/g01343/spec.l10Follow -/
def f51.l1 (Q : Post) (v1 : Value) (d_1 : Value) (v17 : Value) (I1 : St [8, 12, 13, 15] → Heap → Prop) (s_8 : Value) (sets_12 : Value) (breaks_13 : Value) (last_15 : Value) (H : Heap) : Prop :=
  W.fieldAddr 0 v1 H fun v18 H =>
  W.get v18 H fun v19 H =>
  W.call Try.prog (.func (.func 61) #[] #[]) #[v19, s_8] H fun v20 H =>
  W.fieldAddr 1 v1 H fun v21 H =>
  W.get v21 H fun v22 H =>
  W.call Try.prog (.func (.func 62) #[] #[]) #[v20, v22] H fun v23 H =>
  W.extract 0 v23 H fun v24 H =>
  W.extract 1 v23 H fun v25 H =>
  W.call Try.prog (.func (.func 62) #[] #[]) #[v20, d_1] H fun v26 H =>
  W.extract 0 v26 H fun v27 H =>
  W.extract 1 v26 H fun v28 H =>
  W.bin .eql v25 (.int .i64 0) H fun v29 H =>
  W.cond v29 H
  (fun H => Q (.tuple #[(.slice none 0 0), (.slice none 0 0), (.int .i64 5)]) H)
  (fun H => W.call Try.prog (.func (.func 87) #[] #[]) #[v24, v25] H fun v30 H =>
   W.call Try.prog (.func (.func 87) #[] #[]) #[v27, v25] H fun v31 H =>
   W.bin .geq last_15 (.int .i64 0) H fun v32 H =>
   W.guarded v32 true (fun H k => k v31 H) H fun v33 H =>
   W.guarded v32 true (fun H k => k last_15 H) H fun v34 H =>
   W.guarded v32 true (fun H k => W.indexAddr 1 v33 v34 H k) H fun v35 H =>
   W.guarded v32 true (fun H k => W.get v35 H k) H fun v36 H =>
   W.guarded v32 true (fun H k => W.bin .leq v36 (.int .i64 0) H k) H fun v37 H =>
   W.pick v32 v37 (.bool false) H fun v38 H =>
   W.cond v38 H
   (fun H => Q (.tuple #[(.slice none 0 0), (.slice none 0 0), (.int .i64 5)]) H)
   (fun H => W.getN 2 v17 H fun v39 H =>
    W.call Try.prog (.func (.func 88) #[] #[]) #[v30, v31, v39] H fun v40 H =>
    W.extract 0 v40 H fun v41 H =>
    W.extract 1 v40 H fun v42 H =>
    W.extract 2 v40 H fun v43 H =>
    W.extract 3 v40 H fun v44 H =>
    W.new [(.int .i64 0), (.int .i64 0)] 50 H fun v45 H =>
    W.putN 2 v45 v41 H fun _ H =>
    W.un .not v44 H fun v46 H =>
    W.cond v46 H
    (fun H => Q (.tuple #[sets_12, breaks_13, (.int .i64 0)]) H)
    (fun H => W.bin .gtr v43 (.int .i64 1) H fun v47 H =>
     W.cond v47 H
     (fun H => Q (.tuple #[(.slice none 0 0), (.slice none 0 0), (.int .i64 5)]) H)
     (fun H => W.len breaks_13 H fun v48 H =>
      W.bin .eql v48 (.int .i64 40) H fun v49 H =>
      W.cond v49 H
      (fun H => Q (.tuple #[(.slice none 0 0), (.slice none 0 0), (.int .i64 3)]) H)
      (fun H => W.conv .u64 v42 H fun v50 H =>
       W.bin .shl (.int .i64 1) v50 H fun v51 H =>
       W.bin .xor s_8 v51 H fun v52 H =>
       W.lit 1 [(.int .i64 0)] 2 [(0, 1, v52)] H fun v53 H =>
       W.append 1 2 sets_12 v53 H fun v54 H =>
       W.getN 2 v45 H fun v55 H =>
       W.lit 1 [(.int .i64 0), (.int .i64 0)] 50 [(0, 2, v55)] H fun v56 H =>
       W.append 2 50 breaks_13 v56 H fun v57 H =>
       W.getN 2 v45 H fun v58 H =>
       W.putN 2 v17 v58 H fun _ H =>
       I1 (v52, v54, v57, v42, ()) H)))))
def f51.w (Q : Post) (p_0 : Value) (d_1 : Value) (H : Heap) : Prop :=
  W.box p_0 27 H fun v1 H =>
  W.getN 2 v1 H fun v2 H =>
  W.call Try.prog (.func (.func 85) #[] #[]) #[v2] H fun v3 H =>
  W.len v3 H fun v4 H =>
  W.bin .neq v4 (.int .i64 1) H fun v5 H =>
  W.cond v5 H
  (fun H => Q (.tuple #[(.slice none 0 0), (.slice none 0 0), (.int .i64 5)]) H)
  (fun H => W.indexAddr 1 v3 (.int .i64 0) H fun v6 H =>
   W.get v6 H fun v7 H =>
   W.getN 2 v1 H fun v8 H =>
   W.call Try.prog (.func (.func 86) #[] #[]) #[v8, v7] H fun v9 H =>
   W.extract 0 v9 H fun v10 H =>
   W.extract 1 v9 H fun v11 H =>
   W.extract 2 v9 H fun v12 H =>
   W.un .not v12 H fun v13 H =>
   W.cond v13 H
   (fun H => Q (.tuple #[(.slice none 0 0), (.slice none 0 0), (.int .i64 5)]) H)
   (fun H => W.lit 1 [(.int .i64 0)] 2 [(0, 1, v7)] H fun v14 H =>
    W.lit 0 [(.int .i64 0), (.int .i64 0)] 50 [] H fun v15 H =>
    W.build [(.int .i64 0), (.int .i64 0)] [(0, 1, (.int .i64 0)), (1, 1, (.int .i64 1))] H fun v16 H =>
    W.new [(.int .i64 0), (.int .i64 0)] 50 H fun v17 H =>
    W.putN 2 v17 v16 H fun _ H =>
    W.loop (S := St [8, 12, 13, 15]) (fun I1 s H => f51.l1 Q v1 d_1 v17 I1 s.1 s.2.1 s.2.2.1 s.2.2.2.1 H) (v7, v14, v15, (.int .i64 (-1)), ()) H))
theorem f51.enter {Q : Post} {p_0 : Value} {d_1 : Value} {H : Heap} (h : f51.w Q p_0 d_1 H) : Runs Try.prog 51 #[p_0, d_1] H Q :=
  fn_enter (ann := [(9, [8, 12, 13, 15])]) (by kernel_rfl) Try.func51 rfl (by kernel_rfl) h (by kernel_rfl)

/- loop.example/g01343/spec.FollowProblem -/
def f22.j1 (Q : Post) (v7 : Value) (v8 : Value) (code_10 : Value) (H : Heap) : Prop :=
  W.bin .neq code_10 (.int .i64 0) H fun v14 H =>
  W.cond v14 H
  (fun H => Q (.tuple #[(.slice none 0 0), (.slice none 0 0), code_10]) H)
  (fun H => Q (.tuple #[v7, v8, (.int .i64 0)]) H)
def f22.w (Q : Post) (p_0 : Value) (d_1 : Value) (H : Heap) : Prop :=
  W.box p_0 27 H fun v1 H =>
  W.getN 2 v1 H fun v2 H =>
  W.call Try.prog (.func (.func 50) #[] #[]) #[v2, d_1] H fun v3 H =>
  W.bin .neq v3 (.int .i64 0) H fun v4 H =>
  W.cond v4 H
  (fun H => Q (.tuple #[(.slice none 0 0), (.slice none 0 0), v3]) H)
  (fun H => W.getN 2 v1 H fun v5 H =>
   W.call Try.prog (.func (.func 51) #[] #[]) #[v5, d_1] H fun v6 H =>
   W.extract 0 v6 H fun v7 H =>
   W.extract 1 v6 H fun v8 H =>
   W.extract 2 v6 H fun v9 H =>
   W.bin .eql v9 (.int .i64 0) H fun v10 H =>
   W.cond v10 H
   (fun H => W.call Try.prog (.func (.func 52) #[] #[]) #[v8] H fun v11 H =>
    W.extract 0 v11 H fun v12 H =>
    W.extract 1 v11 H fun v13 H =>
    f22.j1 Q v7 v8 v13 H)
   (fun H => f22.j1 Q v7 v8 v9 H))
theorem f22.enter {Q : Post} {p_0 : Value} {d_1 : Value} {H : Heap} (h : f22.w Q p_0 d_1 H) : Runs Try.prog 22 #[p_0, d_1] H Q :=
  fn_enter (ann := []) (by kernel_rfl) Try.func22 rfl (by kernel_rfl) h (by kernel_rfl)

/- loop.example/g01343/spec.SetAt -/
def f29.l1 (Q : Post) (v14 : Value) (v2 : Value) (v13 : Value) (I1 : St [12] → Heap → Prop) (at_12 : Value) (H : Heap) : Prop :=
  W.len v14 H fun v17 H =>
  W.bin .lss at_12 v17 H fun v18 H =>
  W.guarded v18 true (fun H k => W.getN 2 v2 H k) H fun v19 H =>
  W.guarded v18 true (fun H k => k v14 H) H fun v20 H =>
  W.guarded v18 true (fun H k => k at_12 H) H fun v21 H =>
  W.guarded v18 true (fun H k => W.indexAddr 2 v20 v21 H k) H fun v22 H =>
  W.guarded v18 true (fun H k => W.getN 2 v22 H k) H fun v23 H =>
  W.guarded v18 true (fun H k => W.callQ Try.prog (.func (.func 65) #[] #[]) #[v19, v23] H k) H fun v24 H =>
  W.guarded v18 true (fun H k => W.un .not v24 H k) H fun v25 H =>
  W.pick v18 v25 (.bool false) H fun v26 H =>
  W.cond v26 H
  (fun H => W.bin .add at_12 (.int .i64 1) H fun v27 H =>
   I1 (v27, ()) H)
  (fun H => W.indexAddr 1 v13 at_12 H fun v28 H =>
   W.get v28 H fun v29 H =>
   Q (.tuple #[v29, (.int .i64 0)]) H)
def f29.j1 (Q : Post) (v1 : Value) (d_1 : Value) (v2 : Value) (code_8 : Value) (H : Heap) : Prop :=
  W.bin .neq code_8 (.int .i64 0) H fun v10 H =>
  W.cond v10 H
  (fun H => Q (.tuple #[(.int .i64 0), code_8]) H)
  (fun H => W.getN 2 v1 H fun v11 H =>
   W.call Try.prog (.func (.func 22) #[] #[]) #[v11, d_1] H fun v12 H =>
   W.extract 0 v12 H fun v13 H =>
   W.extract 1 v12 H fun v14 H =>
   W.extract 2 v12 H fun v15 H =>
   W.bin .neq v15 (.int .i64 0) H fun v16 H =>
   W.cond v16 H
   (fun H => Q (.tuple #[(.int .i64 0), v15]) H)
   (fun H => W.loop (S := St [12]) (fun I1 s H => f29.l1 Q v14 v2 v13 I1 s.1 H) ((.int .i64 0), ()) H))
def f29.w (Q : Post) (p_0 : Value) (d_1 : Value) (t_2 : Value) (H : Heap) : Prop :=
  W.box p_0 27 H fun v1 H =>
  W.box t_2 50 H fun v2 H =>
  W.getN 2 v1 H fun v3 H =>
  W.call Try.prog (.func (.func 50) #[] #[]) #[v3, d_1] H fun v4 H =>
  W.bin .eql v4 (.int .i64 0) H fun v5 H =>
  W.guarded v5 true (fun H k => W.getN 2 v2 H k) H fun v6 H =>
  W.guarded v5 true (fun H k => W.call Try.prog (.func (.func 60) #[] #[]) #[v6] H k) H fun v7 H =>
  W.guarded v5 true (fun H k => W.un .not v7 H k) H fun v8 H =>
  W.pick v5 v8 (.bool false) H fun v9 H =>
  W.cond v9 H
  (fun H => f29.j1 Q v1 d_1 v2 (.int .i64 2) H)
  (fun H => f29.j1 Q v1 d_1 v2 v4 H)
theorem f29.enter {Q : Post} {p_0 : Value} {d_1 : Value} {t_2 : Value} {H : Heap} (h : f29.w Q p_0 d_1 t_2 H) : Runs Try.prog 29 #[p_0, d_1, t_2] H Q :=
  fn_enter (ann := [(10, [12])]) (by kernel_rfl) Try.func29 rfl (by kernel_rfl) h (by kernel_rfl)


theorem way_scaled {n : Nat} {p : Prob} {q : List Int} {s : Nat} : (solveL n (colL n p.1 s) q).map (fun x => sgI (det n (mAt (colL n p.1 s))) * x) = wayN n p q s := rfl

/-- The way as the reference goes it: the number that became 0 must rise again. -/
theorem fn51 {H0 : Heap} {Q : Post} {cs : List Value} {vd : Value} {p : Prob} {d : List Int} (hr : Has RProblem H0 cs p) (hd : Has RS H0 [vd] d) (hp : isProb p = true) (hdk : dirOk p.2.length d = true)
    (hQ : ∀ H' u w, Fresh (RS.pair RFS) H0 [u, w] ((wayR p.2.length p d).1, (wayR p.2.length p d).2.1) H' → Q (.tuple #[u, w, .int .i64 (wayR p.2.length p d).2.2]) H') : Runs Try.prog 51 #[.agg cs.toArray, vd] H0 Q := by
  obtain ⟨u1, u2, rfl, r1, r2⟩ := hasProb hr
  have hpb := PB.of hp
  have hn := hpb.n5
  have h32 := pow5 hn
  obtain ⟨hdl, hdb⟩ := dirOk_iff hdk
  have hz : ∀ H c, H0.Le H → wayR p.2.length p d = ([], [], c) → Q (.tuple #[.slice none 0 0, .slice none 0 0, .int .i64 c]) H := fun H c l e => by
    have := hQ H (.slice none 0 0) (.slice none 0 0) (by rw [e]; exact fresh_nil2 l)
    rw [e] at this
    exact this
  have h := ((((Loc.start H0).lent hd).lent hr).lent r1).lent r2
  refine f51.enter ?_
  unfold f51.w
  refine Wl.box h fun H b h => Wl.getA h rfl (Wi.call (fn85 (h.rd (cs := [u1, u2])) hpb fun H u f => ?_))
  have h := h.add f
  have hl := covL_one (n := p.2.length) (p := p)
  have none1 : firstS p.2.length p = none → wayR p.2.length p d = ([], [], 5) := fun e => by unfold wayR; rw [e]
  refine Wl.len h (Wi.neqC (fun hne => Wi.tru ?_) fun he => Wi.fls ?_)
  · refine hz _ _ h.le (none1 ?_)
    unfold firstS
    rw [if_neg]
    rintro ⟨g, _⟩
    omega
  have hlen : (covN p.2.length p).length = 1 := by omega
  have h0 : 0 < (covN p.2.length p).length := by omega
  obtain ⟨hs, s2⟩ := covN_at h0
  obtain ⟨hD, hall⟩ := covB_split s2
  have ev : (covL p.2.length p)[0]'(by omega) = ((covN p.2.length p)[0] : Nat) := by simp only [covL_map, List.getElem_map]
  have ed : (covN p.2.length p).getD 0 0 = (covN p.2.length p)[0] := by simp [h0]
  refine Wl.atInt h (i := 0) (by omega) fun _ => ?_
  rw [ev]
  generalize hss : (covN p.2.length p)[0] = s at *
  refine Wl.getA h rfl (Wi.call (fn86 (h.rd (cs := [u1, u2])) hpb (by omega) (fun g => absurd g hD) fun _ H l => ?_))
  have h := h.to l
  simp only [gw]
  rw [zeroB_inner hall]
  cases hz0 : zeroB p.2.length p s with
  | true =>
    simp only [Bool.not_true, gw]
    refine hz _ _ h.le (none1 ?_)
    unfold firstS
    rw [if_neg]
    rintro ⟨_, g⟩
    rw [ed, hz0] at g
    cases g
  | false =>
  simp only [Bool.not_false, gw]
  have hR : wayR p.2.length p d = folF p.2.length p d 41 s [(s : Int)] [] (0, 1) := by
    unfold wayR firstS
    rw [ed, if_pos ⟨hlen, hz0⟩]
  have h := h.tl

  generalize hRR : wayR p.2.length p d = R at *
  refine Wl.lit1 (r := Rd.int) (ty := 2) (x := (s : Int)) rfl rfl rfl (fun _ => ⟨rfl, rfl, by unfold I64; omega⟩) h fun H u h => ?_
  refine Wl.lit0 (ty := 50) RFrac rfl h fun H v h => ?_
  refine Wi.build (cells := frC (0, 1)) rfl (Wl.new h fun H b9 h => Wl.putA h rfl rfl rfl fun H h => ?_)
  refine W.for_rule 40 (fun i st H => ∃ (s : Nat) (sets : List Int) (breaks : List Frac) (before : Frac) (u v : Value) (last : Int), st = (.int .i64 (s : Nat), u, v, .int .i64 last, ()) ∧ breaks.length = i ∧ sets.length = i + 1 ∧ s < 2 ^ p.2.length ∧ Low before ∧
    (det p.2.length (mAt (colL p.2.length p.1 s)) = 0 → R = ([], [], 5)) ∧ (last = -1 ∧ det p.2.length (mAt (colL p.2.length p.1 s)) ≠ 0 ∨ ∃ k : Nat, last = (k : Int) ∧ k < p.2.length ∧ (det p.2.length (mAt (colL p.2.length p.1 s)) ≠ 0 → (wayN p.2.length p d s).getD k 0 ≤ 0 → R = ([], [], 5))) ∧
    ((det p.2.length (mAt (colL p.2.length p.1 s)) ≠ 0 ∧ (∀ k : Nat, last = (k : Int) → ¬ (wayN p.2.length p d s).getD k 0 ≤ 0)) → folF p.2.length p d (41 - i) s sets breaks before = R) ∧
    Ab.Loc H0 [.box b9 (frC before), .grow RFrac 50 v breaks, .grow Rd.int 2 u sets, .box b [u1, u2], .lent RS [u2] p.2, .lent RSS [u1] p.1, .lent RProblem [u1, u2] p, .lent RS [vd] d] H)
    ⟨s, [(s : Int)], [], (0, 1), u, v, -1, rfl, rfl, rfl, hs, ⟨by decide, by decide, rfl⟩, fun g => absurd g hD, .inl ⟨rfl, hD⟩, fun _ => hR.symm, h⟩ ?_
  clear h hR hD hs
  rintro i st H J hi ⟨s, sets, breaks, before, u, v, last, rfl, hbl, hsl, hs, hlow, hRD, hRB, hR, h⟩ hJ
  have la := wayN_len p.2.length p p.2 s
  have lb := wayN_len p.2.length p d s
  have ba := wayN_abs (s := s) hpb hpb.q
  have bb := wayN_abs (s := s) hpb hdb
  refine Wi.fieldAddr0 (Wl.get h rfl (Wi.call (fn61 (h.rd (cs := [u1])) hpb.sq hn hpb.m (by omega) fun H w f => ?_)))
  have h := (h.addG f).asData (i := 0) rfl
  have hcs := tabL_sq p.2.length (colE p.1 s)
  have hcb : ∀ r c, r < p.2.length → c < p.2.length → (mAt (colL p.2.length p.1 s) r c).natAbs ≤ 20 := fun r c hr hc => by rw [colL_at hr hc]; exact colE_abs (hpb.m r c)
  refine Wi.fieldAddr (Wl.get h rfl (Wi.call (fn62 (h.rd (cs := [w])) (h.rd (cs := [u2])) hcs hn hpb.ql hcb hpb.q fun H va f => ?_)))
  have h := h.add f
  simp only [gw]
  refine Wi.call (fn62 (h.rd (cs := [w])) (h.rd (cs := [vd])) hcs hn hdl hcb hdb fun H vb f => ?_)
  have h := h.add f
  simp only [gw]
  refine Wi.eqlC (fun hD => Wi.tru ?_) fun hD => Wi.fls ?_
  · exact hz _ _ h.le (hRD hD)
  have hsl1 := solveL_len p.2.length (colL p.2.length p.1 s) p.2
  have hsl2 := solveL_len p.2.length (colL p.2.length p.1 s) d
  refine Wi.call (fn87 (h.rd (cs := [va])) (by rw [solveL_len]; omega) (solve_had s hn hpb.m hpb.q) hD fun H va2 f => ?_)
  have h := h.add f
  refine Wi.call (fn87 (h.rd (cs := [vb])) (by rw [solveL_len]; omega) (solve_had s hn hpb.m hdb) hD fun H vb2 f => ?_)
  have h := h.add f
  change Ab.Loc H0 (.data RS [vb2] (wayN p.2.length p d s) :: .data RS [va2] (wayN p.2.length p p.2 s) :: _) H at h
  have h : Ab.Loc H0 [.data RS [vb2] (wayN p.2.length p d s), .data RS [va2] (wayN p.2.length p p.2 s), .box b9 (frC before), .grow RFrac 50 v breaks, .grow Rd.int 2 u sets, .box b [u1, u2], .lent RS [u2] p.2, .lent RSS [u1] p.1, .lent RProblem [u1, u2] p, .lent RS [vd] d] H := ((h.cut 2).cut 2).cut 2
  -- the step itself
  have go : (∀ k : Nat, last = (k : Int) → ¬ (wayN p.2.length p d s).getD k 0 ≤ 0) → W.getN 2 (pt b9 0) H fun v39 H => W.call Try.prog (.func (.func 88) #[] #[]) #[va2, vb2, v39] H fun v40 H =>
      W.extract 0 v40 H fun v41 H => W.extract 1 v40 H fun v42 H => W.extract 2 v40 H fun v43 H => W.extract 3 v40 H fun v44 H =>
      W.new [(.int .i64 0), (.int .i64 0)] 50 H fun v45 H => W.putN 2 v45 v41 H fun _ H => W.un .not v44 H fun v46 H => W.cond v46 H
      (fun H => Q (.tuple #[u, v, (.int .i64 0)]) H)
      (fun H => W.bin .gtr v43 (.int .i64 1) H fun v47 H => W.cond v47 H
       (fun H => Q (.tuple #[(.slice none 0 0), (.slice none 0 0), (.int .i64 5)]) H)
       (fun H => W.len v H fun v48 H => W.bin .eql v48 (.int .i64 40) H fun v49 H => W.cond v49 H
        (fun H => Q (.tuple #[(.slice none 0 0), (.slice none 0 0), (.int .i64 3)]) H)
        (fun H => W.conv .u64 v42 H fun v50 H => W.bin .shl (.int .i64 1) v50 H fun v51 H => W.bin .xor (.int .i64 (s : Nat)) v51 H fun v52 H =>
         W.lit 1 [(.int .i64 0)] 2 [(0, 1, v52)] H fun v53 H => W.append 1 2 u v53 H fun v54 H => W.getN 2 v45 H fun v55 H =>
         W.lit 1 [(.int .i64 0), (.int .i64 0)] 50 [(0, 2, v55)] H fun v56 H => W.append 2 50 v v56 H fun v57 H =>
         W.getN 2 v45 H fun v58 H => W.putN 2 (pt b9 0) v58 H fun _ H => J (v52, v54, v57, v42, ()) H))) := fun hlast => by
    have hR := hR ⟨hD, hlast⟩
    rw [show 41 - i = (40 - i) + 1 by omega, folF] at hR
    refine Wl.getA h rfl (Wi.call (fn88 (h.rd (cs := [va2])) (h.rd (cs := [vb2])) (by rw [la, lb]) (by omega) ba bb hlow fun H l => ?_))
    have h := h.to l
    have hbkl := bk_low (before := before) ba bb p.2.length
    have hone := bk_one (a := wayN p.2.length p p.2 s) (b := wayN p.2.length p d s) (before := before) (n := p.2.length)
    rw [lb]
    simp only [gw]
    refine Wl.new h fun H bt h => Wl.putA h rfl rfl rfl fun H h => ?_
    generalize hbk : bkTo (wayN p.2.length p p.2 s) (wayN p.2.length p d s) before p.2.length = bk at *
    by_cases h0 : bk.2 = []
    · have e0 : decide (0 < bk.2.length) = false := by rw [h0]; rfl
      rw [e0]
      simp only [gw]
      rw [if_pos h0] at hR
      subst hR
      exact hQ _ u v (Loc.ret2 ((h.asData (i := 4) rfl).asData (i := 5) rfl) (i := 5) (j := 4) rfl rfl (by decide))
    have hpos : 0 < bk.2.length := List.length_pos_iff.2 h0
    rw [decide_eq_true hpos]
    simp only [gw]
    rw [if_neg h0] at hR
    refine Wi.gtrC (fun hg => Wi.tru ?_) fun hng => Wi.fls ?_
    · rw [if_pos (by omega)] at hR
      exact hz _ _ h.le hR.symm
    have h1 : ¬ 1 < bk.2.length := by omega
    rw [if_neg h1] at hR
    refine Wl.len h (Wi.eqlC (fun he => Wi.tru ?_) fun hne => Wi.fls ?_)
    · rw [if_pos (by omega)] at hR
      exact hz _ _ h.le hR.symm
    rw [if_neg (by omega)] at hR
    obtain ⟨k, hk, ek⟩ := hone h0 h1
    have e1 : bk.2.getD 0 0 = (k : Int) := by rw [ek]; rfl
    rw [e1, Int.toNat_natCast] at hR
    rw [e1]
    have hs2 : s ^^^ 2 ^ k < 2 ^ p.2.length := Nat.xor_lt_two_pow hs (Nat.pow_lt_pow_right (by decide) hk)
    have hk2 : 2 ^ k < 2 ^ p.2.length := Nat.pow_lt_pow_right (by decide) hk
    refine Wi.convN (by omega) (Wi.shl1 (by omega) (Wi.xorN (by omega) (by omega) ?_))
    generalize hss : s ^^^ 2 ^ k = s2 at *
    have i1 := i64_low hbkl
    refine Wl.pushP (r := Rd.int) (x := (s2 : Int)) (i := 5) rfl rfl rfl (fun _ => ⟨rfl, rfl, by unfold I64; omega⟩) h (by omega) fun H u' h => ?_
    have h : Ab.Loc H0 [.box bt (frC bk.1), .data RS [vb2] (wayN p.2.length p d s), .data RS [va2] (wayN p.2.length p p.2 s), .box b9 (frC before), .grow RFrac 50 v breaks, .grow Rd.int 2 u' (sets ++ [(s2 : Int)]), .box b [u1, u2], .lent RS [u2] p.2, .lent RSS [u1] p.1, .lent RProblem [u1, u2] p, .lent RS [vd] d] H := h
    refine Wl.getA h rfl (Wl.pushP (r := RFrac) (x := bk.1) (i := 4) rfl rfl rfl (fun H => frac_rel i1 H) h (by omega) fun H v' h => ?_)
    have h : Ab.Loc H0 [.box bt (frC bk.1), .data RS [vb2] (wayN p.2.length p d s), .data RS [va2] (wayN p.2.length p p.2 s), .box b9 (frC before), .grow RFrac 50 v' (breaks ++ [bk.1]), .grow Rd.int 2 u' (sets ++ [(s2 : Int)]), .box b [u1, u2], .lent RS [u2] p.2, .lent RSS [u1] p.1, .lent RProblem [u1, u2] p, .lent RS [vd] d] H := h
    refine Wl.getA h rfl (Wl.putA (b := b9) h rfl rfl rfl fun H h => ?_)
    refine hJ _ _ (by omega) ⟨s2, sets ++ [(s2 : Int)], breaks ++ [bk.1], bk.1, u', v', (k : Int), rfl, by simp; omega, by simp; omega, hs2, hbkl, fun e => ?_, .inr ⟨k, rfl, hk, fun e1 e2 => ?_⟩, fun e => ?_, ((h.cut 0).cut 0).cut 0⟩
    · rw [← hR, if_pos e]
    · rw [← hR, if_neg e1, if_pos e2]
    · rw [show 41 - (i + 1) = 40 - i by omega]
      rw [if_neg e.1, if_neg (e.2 k rfl)] at hR
      exact hR
  rcases hRB with ⟨rfl, _⟩ | ⟨k, rfl, hk, hRB⟩
  · refine Wi.geqC (fun g => absurd g (by decide)) fun _ => ?_
    simp only [gw]
    exact go fun k hk => by omega
  · refine Wi.geqC (fun _ => ?_) fun g => absurd (by omega) g
    simp only [gw]
    have hkl : k < (wayN p.2.length p d s).length := by omega
    have ekb : (wayN p.2.length p d s).getD k 0 = (wayN p.2.length p d s)[k] := by simp [hkl]
    refine Wl.atInt h hkl fun _ => Wi.leqC (fun hle => ?_) fun hgt => ?_
    · simp only [gw]
      exact hz _ _ h.le (hRB hD (by rw [ekb]; exact hle))
    · simp only [gw]
      refine go fun k' hk' => ?_
      have : k' = k := by omega
      subst this
      rw [ekb]
      exact hgt

theorem fn22 {H0 : Heap} {Q : Post} {cs : List Value} {vd : Value} {p : Prob} {d : List Int} (hr : Has RProblem H0 cs p) (hd : Has RS H0 [vd] d) (_ : wProblem p ≤ 1048576) (_ : d.length ≤ 1048576)
    (hQ : ∀ H' u w, Fresh (RS.pair RFS) H0 [u, w] ((folRes p d).1, (folRes p d).2.1) H' → Q (.tuple #[u, w, .int .i64 (folRes p d).2.2]) H') : Runs Try.prog 22 #[.agg cs.toArray, vd] H0 Q := by
  have hlen := hr.len
  have hz : ∀ H c, H0.Le H → folRes p d = ([], [], c) → Q (.tuple #[.slice none 0 0, .slice none 0 0, .int .i64 c]) H := fun H c l e => by
    have := hQ H (.slice none 0 0) (.slice none 0 0) (by rw [e]; exact fresh_nil2 l)
    rw [e] at this
    exact this
  have h := ((Loc.start H0).lent hd).lent hr
  refine f22.enter ?_
  unfold f22.w
  refine Wl.box h fun H b h => Wl.getA h hlen (Wi.call (fn50 (h.rd (cs := cs)) (h.rd (cs := [vd])) fun H l => ?_))
  have h := h.to l
  unfold givC
  by_cases hp : isProb p = true
  · rw [if_pos hp]
    by_cases hdk : dirOk p.2.length d = true
    · rw [if_pos hdk]
      have e : folRes p d = wayR p.2.length p d := by unfold folRes; rw [if_pos hp, if_pos hdk]
      have hok := wayR_ok (p := p) (PB.of hp) (dirOk_iff hdk).2
      rw [e] at hQ
      refine Wi.neqC (fun g => absurd rfl g) fun _ => Wi.fls (Wl.getA h hlen (Wi.call (fn51 (h.rd (cs := cs)) (h.rd (cs := [vd])) hp hdk fun H u w f => ?_)))
      generalize wayR p.2.length p d = R at *
      have h := h.add2 (c1 := [u]) (c2 := [w]) rfl f
      have done : ∀ H, Ab.Loc H0 [.data RS [u] R.1, .data RFS [w] R.2.1, .box b cs, .lent RProblem cs p, .lent RS [vd] d] H → Q (.tuple #[u, w, .int .i64 R.2.2]) H := fun H h => hQ _ u w (Loc.ret2 h (i := 0) (j := 1) rfl rfl (by decide))
      simp only [gw]
      refine Wi.eqlC (fun he => Wi.tru ?_) fun hne => Wi.fls ?_
      · have hall : R.2.1.all (isFr 1000000000) = true := List.all_eq_true.2 fun a ha => low_fr (hok.low a ha)
        refine Wi.call (fn52 (h.rd (cs := [w])) (fun a ha => ⟨(hok.low a ha).1.1, (hok.low a ha).2.2⟩) (fun _ => ?_) fun g => ?_)
        · simp only [gw]
          unfold f22.j1
          refine Wi.neqC (fun g => absurd rfl g) fun _ => Wi.fls ?_
          have := done _ h
          rw [he] at this
          exact this
        · rw [hall] at g; cases g
      · unfold f22.j1
        obtain ⟨e1, e2⟩ := hok.none hne
        exact Wi.neqC (fun _ => Wi.tru (hz _ _ h.le (by rw [e]; exact Prod.ext e1 (Prod.ext e2 rfl)))) fun g => absurd g hne
    · rw [if_neg hdk]
      exact Wi.neqC (fun _ => Wi.tru (hz _ _ h.le (by unfold folRes; rw [if_pos hp, if_neg hdk]))) fun g => absurd g (by decide)
  · rw [if_neg hp]
    exact Wi.neqC (fun _ => Wi.tru (hz _ _ h.le (by unfold folRes; rw [if_neg hp]))) fun g => absurd g (by decide)

theorem fn29 {H0 : Heap} {Q : Post} {cs ct : List Value} {vd : Value} {p : Prob} {d : List Int} {t : Frac} (hr : Has RProblem H0 cs p) (hd : Has RS H0 [vd] d) (ht : Has RFrac H0 ct t) (hw : wProblem p ≤ 1048576) (hdl : d.length ≤ 1048576)
    (hQ : ∀ H', H0.Le H' → Q (.tuple #[.int .i64 (saRes p d t).1, .int .i64 (saRes p d t).2]) H') : Runs Try.prog 29 #[.agg cs.toArray, vd, .agg ct.toArray] H0 Q := by
  obtain ⟨rfl, ht1, ht2⟩ := hasFrac ht
  have hlen := hr.len
  have hz : ∀ H a c, H0.Le H → saRes p d t = (a, c) → Q (.tuple #[.int .i64 a, .int .i64 c]) H := fun H a c l e => by
    have := hQ H l
    rw [e] at this
    exact this
  have h := ((Loc.start H0).lent hd).lent hr
  refine f29.enter ?_
  unfold f29.w
  refine Wl.box h fun H b h => Wl.box h fun H bt h => Wl.getA h hlen (Wi.call (fn50 (h.rd (cs := cs)) (h.rd (cs := [vd])) fun H l => ?_))
  have h := h.to l
  unfold givC
  by_cases hp : isProb p = true
  case neg =>
    rw [if_neg hp]
    refine Wi.eqlC (fun g => absurd g (by decide)) fun _ => ?_
    simp only [gw]
    unfold f29.j1
    exact Wi.neqC (fun _ => Wi.tru (hz _ _ _ h.le (by unfold saRes; rw [if_neg hp]))) fun g => absurd g (by decide)
  rw [if_pos hp]
  by_cases hdk : dirOk p.2.length d = true
  case neg =>
    rw [if_neg hdk]
    refine Wi.eqlC (fun g => absurd g (by decide)) fun _ => ?_
    simp only [gw]
    unfold f29.j1
    exact Wi.neqC (fun _ => Wi.tru (hz _ _ _ h.le (by unfold saRes; rw [if_pos hp, if_neg fun g => hdk g.1]))) fun g => absurd g (by decide)
  rw [if_pos hdk]
  refine Wi.eqlC (fun _ => ?_) fun g => absurd rfl g
  simp only [gw]
  refine Wl.getA h rfl (Wi.call (fn60 ⟨ht1, ht2⟩ fun H l => ?_))
  have h := h.to l
  cases htk : timeOk t with
  | false =>
    simp only [gw]
    unfold f29.j1
    exact Wi.neqC (fun _ => Wi.tru (hz _ _ _ h.le (by unfold saRes; rw [if_pos hp, if_neg fun g => by rw [htk] at g; cases g.2]))) fun g => absurd g (by decide)
  | true =>
  simp only [gw]
  unfold f29.j1
  obtain ⟨t1, t2, _⟩ := timeOk_iff htk
  have hok := wayR_ok (p := p) (n := p.2.length) (PB.of hp) (dirOk_iff hdk).2
  have e : folRes p d = wayR p.2.length p d := by unfold folRes; rw [if_pos hp, if_pos hdk]
  have eR : saRes p d t = if (wayR p.2.length p d).2.2 = 0 then ((wayR p.2.length p d).1.getD (atF (wayR p.2.length p d).2.1 t) 0, 0) else (0, (wayR p.2.length p d).2.2) := by
    unfold saRes
    rw [if_pos hp, if_pos ⟨hdk, htk⟩]
  refine Wi.neqC (fun g => absurd rfl g) fun _ => Wi.fls (Wl.getA h hlen (Wi.call (fn22 (h.rd (cs := cs)) (h.rd (cs := [vd])) hw hdl fun H u w f => ?_)))
  rw [e] at f ⊢
  generalize wayR p.2.length p d = R at *
  have h := h.add2 (c1 := [u]) (c2 := [w]) rfl f
  simp only [gw]
  refine Wi.neqC (fun hne => Wi.tru ?_) fun he => Wi.fls ?_
  · exact hz _ _ _ h.le (by rw [eR, if_neg hne])
  rw [if_pos he] at eR
  have hl := hok.one he
  refine W.for_rule R.2.1.length (fun i st H => st = (.int .i64 (i : Nat), ()) ∧ (∀ j (hj : j < R.2.1.length), j < i → (!fLt t R.2.1[j]) = true) ∧ Ab.Loc H0 [.data RS [u] R.1, .data RFS [w] R.2.1, .box bt (frC t), .box b cs, .lent RProblem cs p, .lent RS [vd] d] H) ⟨rfl, fun j _ hj => by omega, h⟩ ?_
  rintro i st H J hi ⟨rfl, hq, h⟩ hJ
  have fin : ∀ H, (∀ hi : i < R.2.1.length, (!fLt t R.2.1[i]) = false) → Ab.Loc H0 [.data RS [u] R.1, .data RFS [w] R.2.1, .box bt (frC t), .box b cs, .lent RProblem cs p, .lent RS [vd] d] H → W.indexAddr 1 u (.int .i64 (i : Nat)) H fun p H => W.get p H fun v H => Q (.tuple #[v, .int .i64 0]) H := fun H g h => by
    refine Wl.atInt h (i := i) (by omega) fun _ => hz _ _ _ h.le ?_
    rw [eR]
    have : atF R.2.1 t = i := take_while hq hi g
    rw [this]
    simp [show i < R.1.length by omega]
  refine Wl.len h (Wi.lssC (fun hlt => ?_) fun hge => ?_)
  · have hil : i < R.2.1.length := by omega
    simp only [gw]
    have hb := hok.low _ (List.getElem_mem hil)
    have hm := timeMul ⟨t1, t2⟩ hb
    refine Wl.getA h rfl (Wl.atFr h hil fun _ _ => Wi.callQ (fn65 (i64A hm.2 (by decide)) (i64A hm.1 (by decide)) fun H l => ⟨l, ?_⟩))
    have h := h.to l
    have hb2 := hok.breaks
    by_cases hlt : t.1 * (R.2.1[i]).2 < (R.2.1[i]).1 * t.2
    · rw [decide_eq_true hlt]
      simp only [gw]
      refine fin _ (fun _ => ?_) h
      unfold fLt
      rw [decide_eq_true hlt]
      rfl
    · rw [decide_eq_false hlt]
      simp only [gw]
      refine Wi.add (by unfold I64; omega) (hJ _ _ hil ⟨rfl, fun j hj hji => ?_, h⟩)
      by_cases e : j = i
      · subst e
        unfold fLt
        rw [decide_eq_false hlt]
        rfl
      · exact hq j hj (by omega)
  · simp only [gw]
    exact fin _ (fun g => by omega) h

end Go.Proofs.Ythfcodelpebjcaa

/-! Points on ways have no number less than 0. No condition. -/
namespace Go.Proofs.Ythfcodelpebjcaa
open Go.Ab

/-- The number of a point at a parameter, times a number greater than 0. -/
def yN (n : Nat) (p : Prob) (d : List Int) (s : Nat) (t : Frac) (j : Nat) : Int := (wayN n p p.2 s).getD j 0 * t.2 + (wayN n p d s).getD j 0 * t.1

theorem wayN_at {n : Nat} {p : Prob} {q : List Int} {s j : Nat} (hj : j < n) : (wayN n p q s).getD j 0 = sgI (det n (mAt (colL n p.1 s))) * (solveL n (colL n p.1 s) q).getD j 0 := by
  rw [List.getD_eq_getElem?_getD, List.getD_eq_getElem?_getD]
  unfold wayN pointL
  rw [List.getElem?_map, List.getElem?_eq_getElem (by rw [solveL_len]; exact hj)]
  rfl

theorem yN_pt {n : Nat} {p : Prob} {d : List Int} {s : Nat} {t : Frac} {j : Nat} (hj : j < n) : yN n p d s t j = sgI (det n (mAt (colL n p.1 s))) * ptN n p s d t j := by
  unfold yN ptN
  rw [wayN_at hj, wayN_at hj, Int.mul_add, Int.mul_assoc, Int.mul_assoc]

theorem solveL_col {n : Nat} {rows : List (List Int)} {q : List Int} (hs : Sq n rows) {k : Nat} (hk : k < n) : (solveL n rows q).getD k 0 = det n (ucol (mAt rows) k fun r => q.getD r 0) := by
  rw [atD (by rw [solveL_len]; exact hk), solveL_at]
  exact det_congr fun i j hi hj => by
    rw [putCol_at hs hi hj]
    rfl

theorem ptN_col {n : Nat} {p : Prob} {d : List Int} {s : Nat} {t : Frac} {k : Nat} (hk : k < n) : ptN n p s d t k = det n (ucol (mAt (colL n p.1 s)) k fun r => t.2 * p.2.getD r 0 + t.1 * d.getD r 0) := by
  rw [det_lin hk]
  unfold ptN
  rw [solveL_col (colL_sq n p.1 s) hk, solveL_col (colL_sq n p.1 s) hk, Int.mul_comm, Int.mul_comm t.1]

theorem ptN_row {n : Nat} {p : Prob} {d : List Int} {s : Nat} {t : Frac} {r : Nat} (hr : r < n) : sumTo n (fun c => mAt (colL n p.1 s) r c * ptN n p s d t c) = (t.2 * p.2.getD r 0 + t.1 * d.getD r 0) * det n (mAt (colL n p.1 s)) := by
  have h1 := solve_row (q := p.2) (colL_sq n p.1 s) hr
  have h2 := solve_row (q := d) (colL_sq n p.1 s) hr
  have e : sumTo n (fun c => mAt (colL n p.1 s) r c * ptN n p s d t c) = t.2 * sumTo n (fun c => mAt (colL n p.1 s) r c * (solveL n (colL n p.1 s) p.2).getD c 0) + t.1 * sumTo n (fun c => mAt (colL n p.1 s) r c * (solveL n (colL n p.1 s) d).getD c 0) := by
    rw [← sumTo_mul, ← sumTo_mul, ← sumTo_add]
    refine sumTo_congr fun c _ => ?_
    unfold ptN
    rw [Int.mul_add, Int.mul_left_comm t.2, Int.mul_left_comm t.1, Int.mul_comm t.2, Int.mul_comm t.1]
  rw [e, h1, h2, Int.add_mul, Int.mul_assoc, Int.mul_assoc]

/-- Where a number is 0 its variable may be exchanged: the other numbers are the same, but for their denominators. -/
theorem ptN_swap {n : Nat} {p : Prob} {d : List Int} {s i : Nat} {t : Frac} (hz : ptN n p s d t i = 0) {k : Nat} (hk : k < n) :
    det n (mAt (colL n p.1 s)) * ptN n p (s ^^^ 2 ^ i) d t k = ptN n p s d t k * det n (mAt (colL n p.1 (s ^^^ 2 ^ i))) := by
  have same : ∀ r c, r < n → c < n → c ≠ i → mAt (colL n p.1 (s ^^^ 2 ^ i)) r c = mAt (colL n p.1 s) r c := fun r c hr hc hci => by
    rw [colL_at hr hc, colL_at hr hc]
    unfold colE
    have : (s ^^^ 2 ^ i).testBit c = s.testBit c := by
      rw [Nat.testBit_xor, Nat.testBit_two_pow]
      simp [show ¬ i = c from fun e => hci e.symm]
    rw [this]
  rw [ptN_col (s := s ^^^ 2 ^ i) hk]
  have h1 : det n (mAt (colL n p.1 s)) * det n (ucol (mAt (colL n p.1 (s ^^^ 2 ^ i))) k fun r => t.2 * p.2.getD r 0 + t.1 * d.getD r 0) = det n (ucol (mAt (colL n p.1 (s ^^^ 2 ^ i))) k fun r => det n (mAt (colL n p.1 s)) * (t.2 * p.2.getD r 0 + t.1 * d.getD r 0)) := by
    have := det_lin (n := n) (A := mAt (colL n p.1 (s ^^^ 2 ^ i))) hk (det n (mAt (colL n p.1 s))) 0 (fun r => t.2 * p.2.getD r 0 + t.1 * d.getD r 0) (fun _ => 0)
    simpa only [Int.zero_mul, Int.add_zero] using this.symm
  rw [h1]
  have h2 := det_col_sum (n := n) (A := mAt (colL n p.1 (s ^^^ 2 ^ i))) hk n (fun c => ptN n p s d t c) (fun c r => mAt (colL n p.1 (s ^^^ 2 ^ i)) r c)
  have e : det n (ucol (mAt (colL n p.1 (s ^^^ 2 ^ i))) k fun r => det n (mAt (colL n p.1 s)) * (t.2 * p.2.getD r 0 + t.1 * d.getD r 0)) = det n (ucol (mAt (colL n p.1 (s ^^^ 2 ^ i))) k fun r => sumTo n fun c => ptN n p s d t c * mAt (colL n p.1 (s ^^^ 2 ^ i)) r c) := det_congr fun r c hr hc => by
    unfold ucol
    split
    · show det n (mAt (colL n p.1 s)) * (t.2 * p.2.getD r 0 + t.1 * d.getD r 0) = sumTo n fun c => ptN n p s d t c * mAt (colL n p.1 (s ^^^ 2 ^ i)) r c
      rw [Int.mul_comm, ← ptN_row hr]
      refine sumTo_congr fun c hc => ?_
      by_cases hci : c = i
      · subst hci
        rw [hz]
        simp
      · rw [same r c hr hc hci, Int.mul_comm]
    · rfl
  rw [e, h2]
  rw [sumTo_one hk fun c hc hck => by
    rw [det_same hc hk hck fun r => by
      unfold ucol
      rw [if_pos rfl, if_neg hck], Int.mul_zero]]
  rw [ucol_self]

theorem sgI_self {x : Int} (h : x ≠ 0) : sgI x * sgI x = 1 := by
  unfold sgI
  split
  · decide
  · rw [if_pos (by omega)]; decide

theorem yN_swap {n : Nat} {p : Prob} {d : List Int} {s i : Nat} {t : Frac} (hD : det n (mAt (colL n p.1 s)) ≠ 0) (hD' : det n (mAt (colL n p.1 (s ^^^ 2 ^ i))) ≠ 0) (hi : i < n) (hz : yN n p d s t i = 0) {k : Nat} (hk : k < n) :
    yN n p d (s ^^^ 2 ^ i) t k * ((det n (mAt (colL n p.1 s))).natAbs : Int) = yN n p d s t k * ((det n (mAt (colL n p.1 (s ^^^ 2 ^ i)))).natAbs : Int) := by
  have hz' : ptN n p s d t i = 0 := by
    rw [yN_pt hi] at hz
    rcases Int.mul_eq_zero.1 hz with g | g
    · exact absurd (sgI_zero.1 g) hD
    · exact g
  have h := ptN_swap hz' hk
  rw [yN_pt hk, yN_pt hk, ← sgI_mul, ← sgI_mul]
  generalize det n (mAt (colL n p.1 s)) = D at *
  generalize det n (mAt (colL n p.1 (s ^^^ 2 ^ i))) = D' at *
  generalize ptN n p (s ^^^ 2 ^ i) d t k = X' at *
  generalize ptN n p s d t k = X at *
  have e1 : sgI D' * X' * (sgI D * D) = sgI D' * sgI D * (D * X') := by ac_rfl
  have e2 : sgI D * X * (sgI D' * D') = sgI D' * sgI D * (X * D') := by ac_rfl
  rw [e1, e2, h]

/-! ### Breakpoints and signs -/

theorem sign_mul {u v m k : Int} (h : u * m = v * k) (hm : 0 < m) (hk : 0 < k) : (0 < u ↔ 0 < v) ∧ (u = 0 ↔ v = 0) ∧ (u < 0 ↔ v < 0) := by
  have p1 : 0 < u → 0 < v := fun g => by
    have := Int.mul_pos g hm
    rw [h] at this
    exact Int.pos_of_mul_pos_right (by rwa [Int.mul_comm] at this) (by omega) |> fun x => x
  have p2 : 0 < v → 0 < u := fun g => by
    have := Int.mul_pos g hk
    rw [← h] at this
    exact Int.pos_of_mul_pos_right (by rwa [Int.mul_comm] at this) (by omega) |> fun x => x
  have z : u = 0 ↔ v = 0 := by
    constructor
    · rintro rfl
      rw [Int.zero_mul] at h
      exact (Int.mul_eq_zero.1 h.symm).elim id fun g => by omega
    · rintro rfl
      rw [Int.zero_mul] at h
      exact (Int.mul_eq_zero.1 h).elim id fun g => by omega
  refine ⟨⟨p1, p2⟩, z, ?_⟩
  constructor
  · intro g
    rcases Int.lt_trichotomy v 0 with x | x | x
    · exact x
    · have := z.2 x; omega
    · have := p2 x; omega
  · intro g
    rcases Int.lt_trichotomy u 0 with x | x | x
    · exact x
    · have := z.1 x; omega
    · have := p1 x; omega

/-- How a parameter lies to where a falling number becomes 0. -/
theorem can_sign {n : Nat} {p : Prob} {d : List Int} {s j : Nat} {t : Frac} (hb : (wayN n p d s).getD j 0 < 0) :
    (t.1 * (canF (wayN n p p.2 s) (wayN n p d s) j).2 < (canF (wayN n p p.2 s) (wayN n p d s) j).1 * t.2 ↔ 0 < yN n p d s t j) ∧
    (t.1 * (canF (wayN n p p.2 s) (wayN n p d s) j).2 = (canF (wayN n p p.2 s) (wayN n p d s) j).1 * t.2 ↔ yN n p d s t j = 0) := by
  unfold yN canF
  generalize (wayN n p p.2 s).getD j 0 = a at *
  generalize (wayN n p d s).getD j 0 = b at *
  have hm := frac_mul (n := a) (d := -b) (by omega)
  have hp := frac_pos (n := a) (d := -b) (by omega)
  generalize frac a (-b) = c at *
  have h : (c.1 * t.2 - t.1 * c.2) * (-b) = (a * t.2 + b * t.1) * c.2 := by
    have e1 : c.1 * t.2 * (-b) = a * c.2 * t.2 := by rw [← hm]; ac_rfl
    rw [Int.sub_mul, e1, Int.add_mul]
    have e2 : t.1 * c.2 * -b = -(b * t.1 * c.2) := by
      rw [Int.mul_neg]
      congr 1
      ac_rfl
    have e3 : a * c.2 * t.2 = a * t.2 * c.2 := by ac_rfl
    rw [e2, e3]
    omega
  obtain ⟨h1, h2, _⟩ := sign_mul h (by omega) hp
  constructor
  · rw [← h1]; omega
  · rw [← h2]; omega

/-- The next breakpoint is the least of those that lie behind. -/
theorem bk_least {a b : List Int} {before : Frac} (ba : ∀ e ∈ a, e.natAbs ≤ 768000000) (bb : ∀ e ∈ b, e.natAbs ≤ 768000000) : ∀ i, (∀ x ∈ (bkTo a b before i).2, ∃ j : Nat, x = (j : Int) ∧ j < i ∧ canOk a b before j = true ∧ canF a b j = (bkTo a b before i).1) ∧
    ∀ j, j < i → canOk a b before j = true → (bkTo a b before i).2 ≠ [] ∧ fLt (canF a b j) (bkTo a b before i).1 = false ∧ (canF a b j = (bkTo a b before i).1 → (j : Int) ∈ (bkTo a b before i).2)
  | 0 => ⟨fun x hx => by simp [bkTo] at hx, fun j hj => by omega⟩
  | i + 1 => by
    obtain ⟨h1, h2⟩ := bk_least ba bb i (before := before)
    have hl := bk_low (before := before) ba bb i
    by_cases hok : canOk a b before i = true
    · have hc : Low (canF a b i) := by
        unfold canOk at hok
        rw [Bool.and_eq_true] at hok
        exact canF_low ba bb (of_decide_eq_true hok.1)
      have irr : ∀ x : Frac, fLt x x = false := fun x => by unfold fLt; rw [decide_eq_false (by omega)]
      by_cases hnew : (bkTo a b before i).2 = [] ∨ fLt (canF a b i) (bkTo a b before i).1 = true
      · have e : bkTo a b before (i + 1) = (canF a b i, [(i : Int)]) := by rw [bkTo, if_pos hok, if_pos hnew]
        rw [e]
        refine ⟨fun x hx => ⟨i, by simpa using hx, by omega, hok, rfl⟩, fun j hj hj2 => ⟨by simp, ?_, fun g => ?_⟩⟩
        · by_cases hji : j = i
          · subst hji; exact irr _
          · obtain ⟨g1, g2, _⟩ := h2 j (by omega) hj2
            have hlt : fLt (canF a b i) (bkTo a b before i).1 = true := hnew.elim (fun g => absurd g g1) id
            have hcj : Low (canF a b j) := by
              unfold canOk at hj2
              rw [Bool.and_eq_true] at hj2
              exact canF_low ba bb (of_decide_eq_true hj2.1)
            -- j is not less than the old best, which is greater than the new one
            unfold fLt at hlt g2 ⊢
            rw [decide_eq_true_iff] at hlt
            rw [decide_eq_false_iff_not] at g2 ⊢
            intro g
            refine g2 ?_
            have k1 := Int.mul_lt_mul_of_pos_right g (show 0 < (bkTo a b before i).1.2 by have := hl.1; omega)
            have k2 := Int.mul_lt_mul_of_pos_right hlt (show 0 < (canF a b j).2 by have := hcj.1; omega)
            have k3 : (canF a b j).1 * (canF a b i).2 * (bkTo a b before i).1.2 = (canF a b j).1 * (bkTo a b before i).1.2 * (canF a b i).2 := by ac_rfl
            have k4 : (canF a b i).1 * (canF a b j).2 * (bkTo a b before i).1.2 = (canF a b i).1 * (bkTo a b before i).1.2 * (canF a b j).2 := by ac_rfl
            have k5 : (bkTo a b before i).1.1 * (canF a b i).2 * (canF a b j).2 = (bkTo a b before i).1.1 * (canF a b j).2 * (canF a b i).2 := by ac_rfl
            rw [k3, k4] at k1
            rw [k5] at k2
            exact Int.lt_of_mul_lt_mul_right (Int.lt_trans k1 k2) (by have := hc.1; omega)
        · by_cases hji : j = i
          · subst hji; simp
          · exfalso
            obtain ⟨g1, g2, _⟩ := h2 j (by omega) hj2
            have hlt : fLt (canF a b i) (bkTo a b before i).1 = true := hnew.elim (fun g => absurd g g1) id
            have g : canF a b j = canF a b i := g
            rw [← g, g2] at hlt
            cases hlt
      · have hne : (bkTo a b before i).2 ≠ [] := fun g => hnew (.inl g)
        have hnl : fLt (canF a b i) (bkTo a b before i).1 = false := by
          cases g : fLt (canF a b i) (bkTo a b before i).1 with
          | false => rfl
          | true => exact absurd (.inr g) hnew
        by_cases he : canF a b i = (bkTo a b before i).1
        · have e : bkTo a b before (i + 1) = ((bkTo a b before i).1, (bkTo a b before i).2 ++ [(i : Int)]) := by rw [bkTo, if_pos hok, if_neg hnew, if_pos he]
          rw [e]
          refine ⟨fun x hx => ?_, fun j hj hj2 => ⟨by simp, ?_, fun g => ?_⟩⟩
          · rcases List.mem_append.1 hx with hx | hx
            · obtain ⟨j, g1, g2, g3, g4⟩ := h1 x hx
              exact ⟨j, g1, by omega, g3, g4⟩
            · exact ⟨i, by simpa using hx, by omega, hok, he⟩
          · by_cases hji : j = i
            · subst hji; exact hnl
            · exact (h2 j (by omega) hj2).2.1
          · by_cases hji : j = i
            · subst hji; simp
            · exact List.mem_append_left _ ((h2 j (by omega) hj2).2.2 g)
        · have e : bkTo a b before (i + 1) = bkTo a b before i := by rw [bkTo, if_pos hok, if_neg hnew, if_neg he]
          rw [e]
          refine ⟨fun x hx => let ⟨j, g1, g2, g3, g4⟩ := h1 x hx; ⟨j, g1, by omega, g3, g4⟩, fun j hj hj2 => ?_⟩
          by_cases hji : j = i
          · subst hji; exact ⟨hne, hnl, fun g => absurd g he⟩
          · exact h2 j (by omega) hj2
    · have e : bkTo a b before (i + 1) = bkTo a b before i := by rw [bkTo, if_neg hok]
      rw [e]
      refine ⟨fun x hx => let ⟨j, g1, g2, g3, g4⟩ := h1 x hx; ⟨j, g1, by omega, g3, g4⟩, fun j hj hj2 => ?_⟩
      by_cases hji : j = i
      · subst hji; exact absurd hj2 hok
      · exact h2 j (by omega) hj2

/-! ### Points on the way -/

/-- At a breakpoint no number is less than 0, and one that is 0 rises. -/
def PosAt (n : Nat) (p : Prob) (d : List Int) (s : Nat) (t : Frac) : Prop := ∀ j, j < n → 0 < yN n p d s t j ∨ yN n p d s t j = 0 ∧ 0 < (wayN n p d s).getD j 0

theorem yN_line {n : Nat} {p : Prob} {d : List Int} {s j : Nat} {t u : Frac} : yN n p d s t j * u.2 = yN n p d s u j * t.2 + (wayN n p d s).getD j 0 * (t.1 * u.2 - u.1 * t.2) := by
  unfold yN
  generalize (wayN n p p.2 s).getD j 0 = a
  generalize (wayN n p d s).getD j 0 = b
  rw [Int.add_mul, Int.add_mul, Int.mul_sub]
  have e1 : a * t.2 * u.2 = a * u.2 * t.2 := by ac_rfl
  have e2 : b * t.1 * u.2 = b * (t.1 * u.2) := by ac_rfl
  have e3 : b * u.1 * t.2 = b * (u.1 * t.2) := by ac_rfl
  omega

theorem can_of_neg {n : Nat} {p : Prob} {d : List Int} {s j : Nat} {before : Frac} (hpos : PosAt n p d s before) (hj : j < n) (hb : (wayN n p d s).getD j 0 < 0) : canOk (wayN n p p.2 s) (wayN n p d s) before j = true := by
  rcases hpos j hj with h | h
  · unfold canOk fLt
    rw [decide_eq_true hb, Bool.true_and, decide_eq_true_iff]
    exact (can_sign hb).1.2 h
  · omega

/-- From a breakpoint to the next one no number is less than 0. -/
theorem seg_pos {n : Nat} {p : Prob} {d : List Int} {s : Nat} {before t : Frac} (hp : PB n p) (hd : ∀ e ∈ d, e.natAbs ≤ 100) (hb0 : 0 < before.2) (ht0 : 0 < t.2) (hpos : PosAt n p d s before) (h1 : before.1 * t.2 ≤ t.1 * before.2)
    (h2 : (bkTo (wayN n p p.2 s) (wayN n p d s) before n).2 ≠ [] → t.1 * (bkTo (wayN n p p.2 s) (wayN n p d s) before n).1.2 ≤ (bkTo (wayN n p p.2 s) (wayN n p d s) before n).1.1 * t.2) {j : Nat} (hj : j < n) : 0 ≤ yN n p d s t j := by
  have ba := wayN_abs (s := s) hp hp.q
  have bb := wayN_abs (s := s) hp hd
  by_cases hb : (wayN n p d s).getD j 0 < 0
  · have hok := can_of_neg hpos hj hb
    obtain ⟨g1, g2, _⟩ := (bk_least (before := before) ba bb n).2 j hj hok
    have h2 := h2 g1
    have hbl := bk_low (before := before) ba bb n
    have hcl := canF_low ba bb hb
    generalize bkTo (wayN n p p.2 s) (wayN n p d s) before n = bk at *
    unfold fLt at g2
    rw [decide_eq_false_iff_not] at g2
    have cs := can_sign (t := t) hb
    generalize canF (wayN n p p.2 s) (wayN n p d s) j = c at *
    -- t is at most where the number becomes 0
    have : t.1 * c.2 ≤ c.1 * t.2 := by
      have k1 := Int.mul_le_mul_of_nonneg_right h2 (show 0 ≤ c.2 by have := hcl.1; omega)
      have k2 := Int.mul_le_mul_of_nonneg_right (Int.not_lt.1 g2) (Int.le_of_lt ht0)
      have e1 : t.1 * bk.1.2 * c.2 = t.1 * c.2 * bk.1.2 := by ac_rfl
      have e2 : bk.1.1 * t.2 * c.2 = bk.1.1 * c.2 * t.2 := by ac_rfl
      have e3 : c.1 * bk.1.2 * t.2 = c.1 * t.2 * bk.1.2 := by ac_rfl
      rw [e1, e2] at k1
      rw [e3] at k2
      exact Int.le_of_mul_le_mul_right (Int.le_trans k1 k2) (by have := hbl.1; omega)
    rcases Int.lt_or_eq_of_le this with g | g
    · have := cs.1.1 g; omega
    · have := cs.2.1 g; omega
  · have hl := yN_line (n := n) (p := p) (d := d) (s := s) (j := j) (t := t) (u := before)
    have hy : 0 ≤ yN n p d s before j := by
      rcases hpos j hj with h | h <;> omega
    have k1 := Int.mul_nonneg hy (Int.le_of_lt ht0)
    have k2 := Int.mul_nonneg (show 0 ≤ (wayN n p d s).getD j 0 by omega) (show 0 ≤ t.1 * before.2 - before.1 * t.2 by omega)
    have k3 : 0 ≤ yN n p d s t j * before.2 := by omega
    apply Classical.byContradiction
    intro hn
    have := Int.mul_neg_of_neg_of_pos (show yN n p d s t j < 0 by omega) hb0
    omega

/-- The next set has the same point at the breakpoint. -/
theorem step_pos {n : Nat} {p : Prob} {d : List Int} {s i : Nat} {before : Frac} (hp : PB n p) (hd : ∀ e ∈ d, e.natAbs ≤ 100) (hb0 : 0 < before.2) (hpos : PosAt n p d s before) (hD : det n (mAt (colL n p.1 s)) ≠ 0) (hi : i < n)
    (hone : (bkTo (wayN n p p.2 s) (wayN n p d s) before n).2 = [(i : Int)]) (hD' : det n (mAt (colL n p.1 (s ^^^ 2 ^ i))) ≠ 0) (hrise : 0 < (wayN n p d (s ^^^ 2 ^ i)).getD i 0) :
    PosAt n p d (s ^^^ 2 ^ i) (bkTo (wayN n p p.2 s) (wayN n p d s) before n).1 ∧ fLt before (bkTo (wayN n p p.2 s) (wayN n p d s) before n).1 = true := by
  have ba := wayN_abs (s := s) hp hp.q
  have bb := wayN_abs (s := s) hp hd
  obtain ⟨m1, m2⟩ := bk_least (before := before) ba bb n
  have hbl := bk_low (before := before) ba bb n
  obtain ⟨i', e1, _, hoki, hci⟩ := m1 (i : Int) (by rw [hone]; simp)
  have : i' = i := by omega
  subst this
  have hbi : (wayN n p d s).getD i' 0 < 0 := by
    unfold canOk at hoki
    rw [Bool.and_eq_true] at hoki
    exact of_decide_eq_true hoki.1
  have hlt : fLt before (bkTo (wayN n p p.2 s) (wayN n p d s) before n).1 = true := by
    unfold canOk at hoki
    rw [Bool.and_eq_true, hci] at hoki
    exact hoki.2
  have m2' := m2
  generalize hbk : bkTo (wayN n p p.2 s) (wayN n p d s) before n = bk at *
  have hzi : yN n p d s bk.1 i' = 0 := by
    rw [← (can_sign (t := bk.1) hbi).2, hci]
  refine ⟨fun k hk => ?_, hlt⟩
  have hsw := yN_swap hD hD' hi hzi hk
  have sg := sign_mul hsw (by omega) (by omega)
  by_cases hki : k = i'
  · subst hki
    exact .inr ⟨sg.2.1.2 hzi, hrise⟩
  · refine .inl (sg.1.2 ?_)
    by_cases hb : (wayN n p d s).getD k 0 < 0
    · have hok := can_of_neg hpos hk hb
      obtain ⟨_, g2, g3⟩ := m2 k hk hok
      have hcl := canF_low ba bb hb
      have cs := can_sign (t := bk.1) hb
      have hne : canF (wayN n p p.2 s) (wayN n p d s) k ≠ bk.1 := fun g => by
        have := g3 g
        rw [hone] at this
        simp at this
        omega
      generalize canF (wayN n p p.2 s) (wayN n p d s) k = c at *
      unfold fLt at g2
      rw [decide_eq_false_iff_not] at g2
      refine cs.1.1 ?_
      rcases Int.lt_or_eq_of_le (Int.not_lt.1 g2) with g | g
      · exact g
      · exact absurd ((frac_cross (by have := hcl.1; omega) (by have := hbl.1; omega) hcl.2.2 hbl.2.2).1 g.symm) hne
    · have hl := yN_line (n := n) (p := p) (d := d) (s := s) (j := k) (t := bk.1) (u := before)
      unfold fLt at hlt
      rw [decide_eq_true_iff] at hlt
      have hb2 := hbl.1
      have k0 : 0 < yN n p d s bk.1 k * before.2 := by
        rcases hpos k hk with h | ⟨h, h'⟩
        · have k1 := Int.mul_pos h (show 0 < bk.1.2 by omega)
          have k2 := Int.mul_nonneg (show 0 ≤ (wayN n p d s).getD k 0 by omega) (show 0 ≤ bk.1.1 * before.2 - before.1 * bk.1.2 by omega)
          omega
        · rw [h, Int.zero_mul, Int.zero_add] at hl
          have := Int.mul_pos h' (show 0 < bk.1.1 * before.2 - before.1 * bk.1.2 by omega)
          omega
      exact Int.pos_of_mul_pos_right (by rwa [Int.mul_comm] at k0) (by omega) |> fun x => x

/-- The m-th set of a way and a parameter between its breakpoints. -/
def Between (breaks : List Frac) (m : Nat) (t : Frac) : Prop := (0 < m → (breaks.getD (m - 1) (0, 1)).1 * t.2 ≤ t.1 * (breaks.getD (m - 1) (0, 1)).2) ∧ (m < breaks.length → t.1 * (breaks.getD m (0, 1)).2 ≤ (breaks.getD m (0, 1)).1 * t.2)

/-- What holds of a way's m-th set. -/
def GoodAt (n : Nat) (p : Prob) (d : List Int) (sets : List Int) (breaks : List Frac) (m : Nat) : Prop :=
  ∃ s : Nat, sets.getD m 0 = (s : Int) ∧ s < 2 ^ n ∧ det n (mAt (colL n p.1 s)) ≠ 0 ∧ ∀ t : Frac, 0 < t.2 → 0 ≤ t.1 → Between breaks m t → ∀ j, j < n → 0 ≤ yN n p d s t j

theorem getD_app {α : Type} {l : List α} {x d : α} {i : Nat} (h : i < l.length) : (l ++ [x]).getD i d = l.getD i d := by
  simp [List.getD_eq_getElem?_getD, List.getElem?_append_left h]
theorem getD_last {α : Type} {l : List α} {x d : α} : (l ++ [x]).getD l.length d = x := by simp

/-- Each breakpoint is less than the one behind it, and the first one is greater than 0. -/
def Asc (breaks : List Frac) : Prop := ∀ m, m < breaks.length → fLt (if m = 0 then (0, 1) else breaks.getD (m - 1) (0, 1)) (breaks.getD m (0, 1)) = true

theorem fol_good {n : Nat} {p : Prob} {d : List Int} (hp : PB n p) (hd : ∀ e ∈ d, e.natAbs ≤ 100) : ∀ (k s : Nat) (sets : List Int) (breaks : List Frac) (before : Frac) (S : List Int) (B : List Frac), folF n p d k s sets breaks before = (S, B, 0) →
    sets.length = breaks.length + 1 → sets.getD breaks.length 0 = (s : Int) → before = (if breaks.length = 0 then (0, 1) else breaks.getD (breaks.length - 1) (0, 1)) → s < 2 ^ n → det n (mAt (colL n p.1 s)) ≠ 0 → 0 < before.2 → PosAt n p d s before → Asc breaks → (∀ m, m < breaks.length → GoodAt n p d sets breaks m) →
    Asc B ∧ ∀ m, m ≤ B.length → GoodAt n p d S B m
  | 0, _, _, _, _, _, _, h, _, _, _, _, _, _, _, _, _ => by simp [folF] at h
  | k + 1, s, sets, breaks, before, S, B, h, h1, h2, h3, h4, h5, h6, h7, h8, h9 => by
    unfold folF at h
    have hone := bk_one (a := wayN n p p.2 s) (b := wayN n p d s) (before := before) (n := n)
    have hbl := bk_low (before := before) (wayN_abs (s := s) hp hp.q) (wayN_abs (s := s) hp hd) n
    have hst := @step_pos n p d s
    have hsg := fun t (ht : 0 < t.2) => @seg_pos n p d s before t hp hd h6 ht h7
    by_cases c1 : (bkTo (wayN n p p.2 s) (wayN n p d s) before n).2 = []
    · rw [if_pos c1] at h
      cases h
      refine ⟨h8, fun m hm => ?_⟩
      rcases Nat.lt_or_ge m breaks.length with g | g
      · exact h9 m g
      · have : m = breaks.length := by omega
        subst this
        refine ⟨s, h2, h4, h5, fun t ht ht1 hb j hj => hsg t ht ?_ (fun g => absurd c1 g) hj⟩
        rw [h3]
        by_cases e : breaks.length = 0
        · rw [if_pos e]; simp; omega
        · rw [if_neg e]
          exact hb.1 (by omega)
    · rw [if_neg c1] at h
      by_cases c2 : 1 < (bkTo (wayN n p p.2 s) (wayN n p d s) before n).2.length
      · rw [if_pos c2] at h; cases h
      · rw [if_neg c2] at h
        by_cases c3 : breaks.length = 40
        · rw [if_pos c3] at h; cases h
        · rw [if_neg c3] at h
          obtain ⟨i, hi, ei⟩ := hone c1 c2
          have e1 : ((bkTo (wayN n p p.2 s) (wayN n p d s) before n).2.getD 0 0).toNat = i := by rw [ei]; simp
          rw [e1] at h
          by_cases c4 : det n (mAt (colL n p.1 (s ^^^ 2 ^ i))) = 0
          · rw [if_pos c4] at h; cases h
          · rw [if_neg c4] at h
            by_cases c5 : (wayN n p d (s ^^^ 2 ^ i)).getD i 0 ≤ 0
            · rw [if_pos c5] at h; cases h
            · rw [if_neg c5] at h
              obtain ⟨q1, q2⟩ := hst hp hd h6 h7 h5 hi ei c4 (by omega)
              have hs2 : s ^^^ 2 ^ i < 2 ^ n := Nat.xor_lt_two_pow h4 (Nat.pow_lt_pow_right (by decide) hi)
              generalize bkTo (wayN n p p.2 s) (wayN n p d s) before n = bk at *
              have e2 := getD_last (l := breaks) (x := bk.1) (d := ((0, 1) : Frac))
              refine fol_good hp hd k _ _ _ _ S B h (by simp; omega) ?_ ?_ hs2 c4 (by have := hbl.1; omega) q1 (fun m hm => ?_) fun m hm => ?_
              · have : (breaks ++ [bk.1]).length = sets.length := by simp; omega
                rw [this, getD_last]
              · have : (breaks ++ [bk.1]).length = breaks.length + 1 := by simp
                rw [this, if_neg (by omega), Nat.add_sub_cancel, e2]
              · have hm : m < breaks.length + 1 := by simpa using hm
                rcases Nat.lt_or_ge m breaks.length with g | g
                · rw [getD_app g, getD_app (by omega)]
                  exact h8 m g
                · have : m = breaks.length := by omega
                  subst this
                  rw [e2]
                  by_cases e : breaks.length = 0
                  · rw [if_pos e]
                    rw [if_pos e] at h3
                    rw [← h3]
                    exact q2
                  · rw [if_neg e, getD_app (by omega)]
                    rw [if_neg e] at h3
                    rw [← h3]
                    exact q2
              · have hm : m < breaks.length + 1 := by simpa using hm
                rcases Nat.lt_or_ge m breaks.length with g | g
                · obtain ⟨s0, g1, g2, g3, g4⟩ := h9 m g
                  refine ⟨s0, by rw [getD_app (by omega)]; exact g1, g2, g3, fun t ht ht1 hb j hj => g4 t ht ht1 ⟨fun g0 => ?_, fun _ => ?_⟩ j hj⟩
                  · have := hb.1 g0
                    rwa [getD_app (by omega)] at this
                  · have := hb.2 (by simp; omega)
                    rwa [getD_app g] at this
                · have : m = breaks.length := by omega
                  subst this
                  refine ⟨s, by rw [getD_app (by omega)]; exact h2, h4, h5, fun t ht ht1 hb j hj => hsg t ht ?_ (fun _ => ?_) hj⟩
                  · rw [h3]
                    by_cases e : breaks.length = 0
                    · rw [if_pos e]; simp; omega
                    · rw [if_neg e]
                      have := hb.1 (by omega)
                      rwa [getD_app (by omega)] at this
                  · have := hb.2 (by simp)
                    rwa [e2] at this

theorem way_good {n : Nat} {p : Prob} {d : List Int} (hp : PB n p) (hd : ∀ e ∈ d, e.natAbs ≤ 100) (h : (wayR n p d).2.2 = 0) : Asc (wayR n p d).2.1 ∧ ∀ m, m ≤ (wayR n p d).2.1.length → GoodAt n p d (wayR n p d).1 (wayR n p d).2.1 m := by
  unfold wayR at h ⊢
  cases hf : firstS n p with
  | none => rw [hf] at h; cases h
  | some s =>
    rw [hf] at h
    dsimp only at h ⊢
    unfold firstS at hf
    split at hf
    · rename_i hc
      have h0 : 0 < (covN n p).length := by omega
      obtain ⟨s1, s2⟩ := covN_at h0
      obtain ⟨hD, hall⟩ := covB_split s2
      have ed : (covN n p).getD 0 0 = (covN n p)[0] := by simp [h0]
      cases hf
      rw [← ed] at s1 s2 hD hall
      generalize (covN n p).getD 0 0 = s at *
      refine fol_good hp hd 41 s [(s : Int)] [] (0, 1) _ _ (Prod.ext rfl (Prod.ext rfl h)) rfl rfl rfl s1 hD (by decide) (fun j hj => .inl ?_) (fun m hm => by simp at hm) fun m hm => by simp at hm
      -- all numbers are greater than 0
      have hin := zeroB_inner hall
      rw [hc.2] at hin
      unfold yN
      simp only [Int.mul_one, Int.mul_zero, Int.add_zero]
      have hjl : j < (wayN n p p.2 s).length := by rw [wayN_len]; exact hj
      rw [atD hjl]
      exact of_decide_eq_true (List.all_eq_true.1 hin _ (List.getElem_mem hjl))
    · cases hf

end Go.Proofs.Ythfcodelpebjcaa
