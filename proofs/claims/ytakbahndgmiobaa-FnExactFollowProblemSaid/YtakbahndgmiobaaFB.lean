/- The next breakpoint of a way, the program's and the reference's. No condition. -/
import Derived.Test.YtakbahndgmiobaaV1
import Derived.Test.YtakbahndgmiobaaF1
import Derived.Test.YtakbahndgmiobaaSR2
import Derived.Test.YtakbahndgmiobaaZabG9
import Derived.Test.YtakbahndgmiobaaZabOne
namespace Go.Proofs.Ytakbahndgmiobaa
open Go.Ab

/- (loop.example/g01343/impl.Frac).compare -/
def f38.w (Q : Post) (a_0 : Value) (b_1 : Value) (H : Heap) : Prop :=
  W.box a_0 34 H fun v1 H =>
  W.box b_1 34 H fun v2 H =>
  W.fieldAddr 0 v1 H fun v3 H =>
  W.get v3 H fun v4 H =>
  W.fieldAddr 1 v2 H fun v5 H =>
  W.get v5 H fun v6 H =>
  W.bin .mul v4 v6 H fun v7 H =>
  W.fieldAddr 0 v2 H fun v8 H =>
  W.get v8 H fun v9 H =>
  W.fieldAddr 1 v1 H fun v10 H =>
  W.get v10 H fun v11 H =>
  W.bin .mul v9 v11 H fun v12 H =>
  W.bin .sub v7 v12 H fun v13 H =>
  W.call Try.prog (.func (.func 75) #[] #[]) #[v13] H fun v14 H =>
  Q v14 H
theorem f38.enter {Q : Post} {a_0 : Value} {b_1 : Value} {H : Heap} (h : f38.w Q a_0 b_1 H) : Runs Try.prog 38 #[a_0, b_1] H Q :=
  fn_enter (ann := []) (by kernel_rfl) Try.func38 rfl (by kernel_rfl) h (by kernel_rfl)

/- loop.example/g01343/impl.breakpoint -/
def f74.j1 (Q : Post) (x_18 : Value) (I1 : St [10, 18] → Heap → Prop) (which_10' : Value) (H : Heap) : Prop :=
  W.bin .add x_18 (.int .i64 1) H fun v9 H =>
  I1 (which_10', v9, ()) H
def f74.j3 (Q : Post) (x_18 : Value) (I1 : St [10, 18] → Heap → Prop) (which_10'' : Value) (H : Heap) : Prop :=
  f74.j1 Q x_18 I1 which_10'' H
def f74.j4 (Q : Post) (x_18 : Value) (I1 : St [10, 18] → Heap → Prop) (which_10''' : Value) (H : Heap) : Prop :=
  f74.j3 Q x_18 I1 which_10''' H
def f74.j2 (Q : Post) (v19 : Value) (x_18 : Value) (v3 : Value) (which_10 : Value) (I1 : St [10, 18] → Heap → Prop) (c_15 : Value) (H : Heap) : Prop :=
  W.bin .lss c_15 (.int .i64 0) H fun v29 H =>
  W.cond v29 H
  (fun H => W.getN 2 v19 H fun v30 H =>
   W.lit 1 [(.int .i64 0)] 3 [(0, 1, x_18)] H fun v31 H =>
   W.putN 2 v3 v30 H fun _ H =>
   f74.j3 Q x_18 I1 v31 H)
  (fun H => W.bin .eql c_15 (.int .i64 0) H fun v32 H =>
   W.cond v32 H
   (fun H => W.lit 1 [(.int .i64 0)] 3 [(0, 1, x_18)] H fun v33 H =>
    W.append 1 3 which_10 v33 H fun v34 H =>
    f74.j4 Q x_18 I1 v34 H)
   (fun H => f74.j4 Q x_18 I1 which_10 H))
def f74.l1 (Q : Post) (v4 : Value) (b_1 : Value) (a_0 : Value) (v1 : Value) (v3 : Value) (v2 : Value) (I1 : St [10, 18] → Heap → Prop) (which_10 : Value) (x_18 : Value) (H : Heap) : Prop :=
  W.bin .lss x_18 v4 H fun v5 H =>
  W.cond v5 H
  (fun H => W.indexAddr 1 b_1 x_18 H fun v6 H =>
   W.get v6 H fun v7 H =>
   W.bin .geq v7 (.int .i64 0) H fun v8 H =>
   W.cond v8 H
   (fun H => f74.j1 Q x_18 I1 which_10 H)
   (fun H => W.indexAddr 1 a_0 x_18 H fun v10 H =>
    W.get v10 H fun v11 H =>
    W.call Try.prog (.func (.func 102) #[] #[]) #[v11, v7] H fun v12 H =>
    W.indexAddr 1 a_0 x_18 H fun v13 H =>
    W.get v13 H fun v14 H =>
    W.bin .quo v14 v12 H fun v15 H =>
    W.un .neg v7 H fun v16 H =>
    W.bin .quo v16 v12 H fun v17 H =>
    W.build [(.int .i64 0), (.int .i64 0)] [(0, 1, v15), (1, 1, v17)] H fun v18 H =>
    W.new [(.int .i64 0), (.int .i64 0)] 34 H fun v19 H =>
    W.putN 2 v19 v18 H fun _ H =>
    W.getN 2 v19 H fun v20 H =>
    W.getN 2 v1 H fun v21 H =>
    W.call Try.prog (.func (.func 38) #[] #[]) #[v20, v21] H fun v22 H =>
    W.bin .leq v22 (.int .i64 0) H fun v23 H =>
    W.cond v23 H
    (fun H => f74.j1 Q x_18 I1 which_10 H)
    (fun H => W.len which_10 H fun v24 H =>
     W.bin .gtr v24 (.int .i64 0) H fun v25 H =>
     W.cond v25 H
     (fun H => W.getN 2 v19 H fun v26 H =>
      W.getN 2 v3 H fun v27 H =>
      W.call Try.prog (.func (.func 38) #[] #[]) #[v26, v27] H fun v28 H =>
      f74.j2 Q v19 x_18 v3 which_10 I1 v28 H)
     (fun H => f74.j2 Q v19 x_18 v3 which_10 I1 (.int .i64 (-1)) H))))
  (fun H => W.getN 2 v3 H fun v35 H =>
   W.len which_10 H fun v36 H =>
   W.bin .gtr v36 (.int .i64 0) H fun v37 H =>
   W.putN 2 v2 v35 H fun _ H =>
   W.getN 2 v2 H fun v38 H => Q (.tuple #[v38, which_10, v37]) H)
def f74.w (Q : Post) (a_0 : Value) (b_1 : Value) (before_2 : Value) (H : Heap) : Prop :=
  W.box before_2 34 H fun v1 H =>
  W.new [(.int .i64 0), (.int .i64 0)] 34 H fun v2 H =>
  W.new [(.int .i64 0), (.int .i64 0)] 34 H fun v3 H =>
  W.len b_1 H fun v4 H =>
  W.loop (S := St [10, 18]) (fun I1 s H => f74.l1 Q v4 b_1 a_0 v1 v3 v2 I1 s.1 s.2.1 H) ((.slice none 0 0), (.int .i64 0), ()) H
theorem f74.enter {Q : Post} {a_0 : Value} {b_1 : Value} {before_2 : Value} {H : Heap} (h : f74.w Q a_0 b_1 before_2 H) : Runs Try.prog 74 #[a_0, b_1, before_2] H Q :=
  fn_enter (ann := [(4, [10, 18])]) (by kernel_rfl) Try.func74 rfl (by kernel_rfl) h (by kernel_rfl)

/- loop.example/g01343/spec.l10Break -/
def f93.j1 (Q : Post) (i_14 : Value) (I1 : St [11, 12, 13, 14] → Heap → Prop) (at_11' : Value) (count_12' : Value) (found_13' : Value) (H : Heap) : Prop :=
  W.bin .add i_14 (.int .i64 1) H fun v10 H =>
  I1 (at_11', count_12', found_13', v10, ()) H
def f93.j2 (Q : Post) (i_14 : Value) (I1 : St [11, 12, 13, 14] → Heap → Prop) (at_11'' : Value) (count_12'' : Value) (found_13'' : Value) (H : Heap) : Prop :=
  f93.j1 Q i_14 I1 at_11'' count_12'' found_13'' H
def f93.j3 (Q : Post) (i_14 : Value) (at_11 : Value) (found_13 : Value) (I1 : St [11, 12, 13, 14] → Heap → Prop) (count_12''' : Value) (H : Heap) : Prop :=
  f93.j2 Q i_14 I1 at_11 count_12''' found_13 H
def f93.l1 (Q : Post) (a_0 : Value) (b_1 : Value) (v1 : Value) (v4 : Value) (v2 : Value) (I1 : St [11, 12, 13, 14] → Heap → Prop) (at_11 : Value) (count_12 : Value) (found_13 : Value) (i_14 : Value) (H : Heap) : Prop :=
  W.len a_0 H fun v5 H =>
  W.bin .lss i_14 v5 H fun v6 H =>
  W.cond v6 H
  (fun H => W.indexAddr 1 b_1 i_14 H fun v7 H =>
   W.get v7 H fun v8 H =>
   W.bin .geq v8 (.int .i64 0) H fun v9 H =>
   W.cond v9 H
   (fun H => f93.j1 Q i_14 I1 at_11 count_12 found_13 H)
   (fun H => W.indexAddr 1 a_0 i_14 H fun v11 H =>
    W.get v11 H fun v12 H =>
    W.indexAddr 1 b_1 i_14 H fun v13 H =>
    W.get v13 H fun v14 H =>
    W.un .neg v14 H fun v15 H =>
    W.callQ Try.prog (.func (.func 64) #[] #[]) #[v12, v15] H fun v16 H =>
    W.new [(.int .i64 0), (.int .i64 0)] 34 H fun v17 H =>
    W.putN 2 v17 v16 H fun _ H =>
    W.getN 2 v1 H fun v18 H =>
    W.getN 2 v17 H fun v19 H =>
    W.call Try.prog (.func (.func 32) #[] #[]) #[v18, v19] H fun v20 H =>
    W.un .not v20 H fun v21 H =>
    W.cond v21 H
    (fun H => f93.j1 Q i_14 I1 at_11 count_12 found_13 H)
    (fun H => W.un .not found_13 H fun v22 H =>
     W.guarded v22 false (fun H k => W.getN 2 v17 H k) H fun v23 H =>
     W.guarded v22 false (fun H k => W.getN 2 v4 H k) H fun v24 H =>
     W.guarded v22 false (fun H k => W.call Try.prog (.func (.func 32) #[] #[]) #[v23, v24] H k) H fun v25 H =>
     W.pick v22 (.bool true) v25 H fun v26 H =>
     W.cond v26 H
     (fun H => W.getN 2 v17 H fun v27 H =>
      W.putN 2 v4 v27 H fun _ H =>
      f93.j2 Q i_14 I1 i_14 (.int .i64 1) (.bool true) H)
     (fun H => W.getN 2 v17 H fun v28 H =>
      W.getN 2 v4 H fun v29 H =>
      W.eqPair .eql v28 v29 H fun v30 H =>
      W.cond v30 H
      (fun H => W.bin .add count_12 (.int .i64 1) H fun v31 H =>
       f93.j3 Q i_14 at_11 found_13 I1 v31 H)
      (fun H => f93.j3 Q i_14 at_11 found_13 I1 count_12 H)))))
  (fun H => W.getN 2 v4 H fun v32 H =>
   W.putN 2 v2 v32 H fun _ H =>
   W.getN 2 v2 H fun v33 H => Q (.tuple #[v33, at_11, count_12, found_13]) H)
def f93.w (Q : Post) (a_0 : Value) (b_1 : Value) (before_2 : Value) (H : Heap) : Prop :=
  W.box before_2 34 H fun v1 H =>
  W.new [(.int .i64 0), (.int .i64 0)] 34 H fun v2 H =>
  W.build [(.int .i64 0), (.int .i64 0)] [(0, 1, (.int .i64 0)), (1, 1, (.int .i64 1))] H fun v3 H =>
  W.new [(.int .i64 0), (.int .i64 0)] 34 H fun v4 H =>
  W.putN 2 v4 v3 H fun _ H =>
  W.loop (S := St [11, 12, 13, 14]) (fun I1 s H => f93.l1 Q a_0 b_1 v1 v4 v2 I1 s.1 s.2.1 s.2.2.1 s.2.2.2.1 H) ((.int .i64 0), (.int .i64 0), (.bool false), (.int .i64 0), ()) H
theorem f93.enter {Q : Post} {a_0 : Value} {b_1 : Value} {before_2 : Value} {H : Heap} (h : f93.w Q a_0 b_1 before_2 H) : Runs Try.prog 93 #[a_0, b_1, before_2] H Q :=
  fn_enter (ann := [(3, [11, 12, 13, 14])]) (by kernel_rfl) Try.func93 rfl (by kernel_rfl) h (by kernel_rfl)

/- loop.example/g01343/spec.l10Scaled -/
def f92.j1 (Q : Post) (i_6 : Value) (I1 : St [5, 6] → Heap → Prop) (out_5' : Value) (H : Heap) : Prop :=
  W.bin .add i_6 (.int .i64 1) H fun v10 H =>
  I1 (out_5', v10, ()) H
def f92.l1 (Q : Post) (list_0 : Value) (det_1 : Value) (I1 : St [5, 6] → Heap → Prop) (out_5 : Value) (i_6 : Value) (H : Heap) : Prop :=
  W.len list_0 H fun v2 H =>
  W.bin .lss i_6 v2 H fun v3 H =>
  W.cond v3 H
  (fun H => W.bin .lss det_1 (.int .i64 0) H fun v4 H =>
   W.cond v4 H
   (fun H => W.indexAddr 1 list_0 i_6 H fun v5 H =>
    W.get v5 H fun v6 H =>
    W.un .neg v6 H fun v7 H =>
    W.lit 1 [(.int .i64 0)] 2 [(0, 1, v7)] H fun v8 H =>
    W.append 1 2 out_5 v8 H fun v9 H =>
    f92.j1 Q i_6 I1 v9 H)
   (fun H => W.indexAddr 1 list_0 i_6 H fun v11 H =>
    W.get v11 H fun v12 H =>
    W.lit 1 [(.int .i64 0)] 2 [(0, 1, v12)] H fun v13 H =>
    W.append 1 2 out_5 v13 H fun v14 H =>
    f92.j1 Q i_6 I1 v14 H))
  (fun H => Q out_5 H)
def f92.w (Q : Post) (list_0 : Value) (det_1 : Value) (H : Heap) : Prop :=
  W.lit 0 [(.int .i64 0)] 2 [] H fun v1 H =>
  W.loop (S := St [5, 6]) (fun I1 s H => f92.l1 Q list_0 det_1 I1 s.1 s.2.1 H) (v1, (.int .i64 0), ()) H
theorem f92.enter {Q : Post} {list_0 : Value} {det_1 : Value} {H : Heap} (h : f92.w Q list_0 det_1 H) : Runs Try.prog 92 #[list_0, det_1] H Q :=
  fn_enter (ann := [(3, [5, 6])]) (by kernel_rfl) Try.func92 rfl (by kernel_rfl) h (by kernel_rfl)


theorem fn38 {H0 : Heap} {Q : Post} {a b : Frac} {A B : Nat} (h1 : (a.1 * b.2).natAbs ≤ A) (h2 : (b.1 * a.2).natAbs ≤ B) (h3 : A + B < 9223372036854775808) (hQ : ∀ H', H0.Le H' → Q (.int .i64 (sgI (a.1 * b.2 - b.1 * a.2))) H') : Runs Try.prog 38 #[.agg (frC a).toArray, .agg (frC b).toArray] H0 Q := by
  refine f38.enter ?_
  unfold f38.w
  refine Wl.box (Loc.start H0) fun H b1 h => Wl.box h fun H b2 h => Wi.fieldAddr0 (Wl.get h rfl (Wi.fieldAddr (Wl.get h rfl (Wi.mul (i64A h1 (by omega)) (Wi.fieldAddr0 (Wl.get h rfl (Wi.fieldAddr (Wl.get h rfl (Wi.mul (i64A h2 (by omega)) (Wi.sub (i64A (subA h1 h2) (by omega)) (Wi.call (fn75 ?_))))))))))))
  exact hQ _ h.le

/-- One fraction is less than another. -/
def fLt (x y : Frac) : Bool := decide (x.1 * y.2 < y.1 * x.2)

/-- Where a number that falls becomes 0. -/
def canF (a b : List Int) (i : Nat) : Frac := frac (a.getD i 0) (-(b.getD i 0))
def canOk (a b : List Int) (before : Frac) (i : Nat) : Bool := decide (b.getD i 0 < 0) && fLt before (canF a b i)

/-- The next breakpoint among the first ones, and which numbers become 0 there. -/
def bkTo (a b : List Int) (before : Frac) : Nat → Frac × List Int
  | 0 => ((0, 1), [])
  | i + 1 =>
    if canOk a b before i = true then
      (if (bkTo a b before i).2 = [] ∨ fLt (canF a b i) (bkTo a b before i).1 = true then (canF a b i, [(i : Int)])
      else if canF a b i = (bkTo a b before i).1 then ((bkTo a b before i).1, (bkTo a b before i).2 ++ [(i : Int)]) else bkTo a b before i)
    else bkTo a b before i

/-- A fraction in lowest terms that is not too large. -/
def Low (t : Frac) : Prop := (1 ≤ t.2 ∧ t.2 ≤ 768000000) ∧ t.1.natAbs ≤ 768000000 ∧ Int.gcd t.1 t.2 = 1

theorem low_fr {t : Frac} (h : Low t) : isFr 1000000000 t = true := by
  obtain ⟨h1, h2, h3⟩ := h
  exact isFr_iff.2 ⟨⟨h1.1, by omega⟩, ⟨by omega, by omega⟩, h3⟩

theorem canF_low {a b : List Int} (ba : ∀ e ∈ a, e.natAbs ≤ 768000000) (bb : ∀ e ∈ b, e.natAbs ≤ 768000000) {i : Nat} (h : b.getD i 0 < 0) : Low (canF a b i) := by
  have g : ∀ (l : List Int), (∀ e ∈ l, e.natAbs ≤ 768000000) → (l.getD i 0).natAbs ≤ 768000000 := fun l hl => by
    rw [List.getD_eq_getElem?_getD]
    cases e : l[i]? with
    | none => simp
    | some x => exact hl x (List.mem_of_getElem? e)
  have h1 := frac_abs (x := a.getD i 0) (d := -(b.getD i 0))
  have h2 := frac_pos (n := a.getD i 0) (d := -(b.getD i 0)) (by omega)
  have h3 := frac_gcd (n := a.getD i 0) (d := -(b.getD i 0)) (by omega)
  have := g a ba
  have := g b bb
  unfold Low canF
  exact ⟨⟨by omega, by omega⟩, by omega, h3⟩

theorem bk_low {a b : List Int} {before : Frac} (ba : ∀ e ∈ a, e.natAbs ≤ 768000000) (bb : ∀ e ∈ b, e.natAbs ≤ 768000000) : ∀ i, Low (bkTo a b before i).1
  | 0 => ⟨⟨by simp [bkTo], by simp [bkTo]⟩, by simp [bkTo], by simp [bkTo]⟩
  | i + 1 => by
    unfold bkTo
    split
    · rename_i h
      unfold canOk at h
      rw [Bool.and_eq_true] at h
      have hc := canF_low ba bb (of_decide_eq_true h.1)
      split
      · exact hc
      · split
        · exact bk_low ba bb i
        · exact bk_low ba bb i
    · exact bk_low ba bb i

theorem bk_len {a b : List Int} {before : Frac} : ∀ i, (bkTo a b before i).2.length ≤ i
  | 0 => by simp [bkTo]
  | i + 1 => by
    have := bk_len (a := a) (b := b) (before := before) i
    unfold bkTo
    split
    · split
      · simp
      · split
        · simp; omega
        · omega
    · omega

theorem bk_mem {a b : List Int} {before : Frac} : ∀ i, ∀ x ∈ (bkTo a b before i).2, 0 ≤ x ∧ x < (i : Int)
  | 0, x, h => by simp [bkTo] at h
  | i + 1, x, h => by
    have ih := bk_mem (a := a) (b := b) (before := before) i
    unfold bkTo at h
    split at h
    · split at h
      · simp only [List.mem_singleton] at h
        omega
      · split at h
        · simp only [List.mem_append, List.mem_singleton] at h
          rcases h with h | h
          · have := ih x h; omega
          · omega
        · have := ih x h; omega
    · have := ih x h; omega

theorem lowMul {x y : Frac} {A : Nat} (hx : x.1.natAbs ≤ A ∧ 1 ≤ x.2 ∧ x.2 ≤ (A : Int)) (hy : Low y) : (x.1 * y.2).natAbs ≤ A * 768000000 ∧ (y.1 * x.2).natAbs ≤ 768000000 * A :=
  ⟨mulA hx.1 (by have := hy.1; omega), mulA hy.2.1 (by omega)⟩

theorem low_ok {y : Frac} (h : Low y) : y.1.natAbs ≤ 768000000 ∧ 1 ≤ y.2 ∧ y.2 ≤ ((768000000 : Nat) : Int) := ⟨h.2.1, h.1.1, h.1.2⟩

theorem sgI_pos' {x : Int} : sgI x ≤ 0 ↔ x ≤ 0 := by
  unfold sgI
  split
  · omega
  · split <;> omega
theorem sgI_lt {x : Int} : sgI x < 0 ↔ x < 0 := by
  unfold sgI
  split
  · omega
  · split <;> omega
theorem sgI_zero {x : Int} : sgI x = 0 ↔ x = 0 := by
  unfold sgI
  split
  · omega
  · split <;> omega

theorem i64_low {t : Frac} (h : Low t) : I64 t.1 ∧ I64 t.2 := by
  obtain ⟨h1, h2, _⟩ := h
  unfold I64
  omega

theorem fn74 {H0 : Heap} {Q : Post} {va vb : Value} {a b : List Int} {before : Frac} (ha : Has RS H0 [va] a) (hb : Has RS H0 [vb] b) (hl : a.length = b.length) (hn : b.length ≤ 5)
    (ba : ∀ e ∈ a, e.natAbs ≤ 768000000) (bb : ∀ e ∈ b, e.natAbs ≤ 768000000) (hbe : Low before)
    (hQ : ∀ H' u t, Fresh RS H0 [u] (bkTo a b before b.length).2 H' → ((bkTo a b before b.length).2 ≠ [] → t = (bkTo a b before b.length).1) → Q (.tuple #[.agg (frC t).toArray, u, .bool (decide (0 < (bkTo a b before b.length).2.length))]) H') :
    Runs Try.prog 74 #[va, vb, .agg (frC before).toArray] H0 Q := by
  refine f74.enter ?_
  unfold f74.w
  have h := ((Loc.start H0).lent ha).lent hb
  refine Wl.box h fun H b1 h => Wl.new h fun H b2 h => Wl.new h fun H b3 h => Wl.len h ?_
  have h := h.nilG Rd.int 3
  refine W.for_rule b.length (fun x st H => ∃ u t, st = (u, .int .i64 (x : Nat), ()) ∧ ((bkTo a b before x).2 ≠ [] → t = (bkTo a b before x).1) ∧ Ab.Loc H0 [.grow Rd.int 3 u (bkTo a b before x).2, .box b3 (frC t), .box b2 (frC (0, 0)), .box b1 (frC before), .lent RS [vb] b, .lent RS [va] a] H)
    ⟨_, (0, 0), rfl, by simp [bkTo], h⟩ ?_
  rintro x st H J hx ⟨u, t, rfl, ht, h⟩ hJ
  have hI : I64 ((x : Int) + 1) := by unfold I64; omega
  have hlen := bk_len (a := a) (b := b) (before := before) x
  refine Wi.lssC (fun hlt => Wi.tru ?_) fun hge => Wi.fls ?_
  · have hxb : x < b.length := by omega
    have hxa : x < a.length := by omega
    have ebx : b.getD x 0 = b[x] := by simp [hxb]
    have eax : a.getD x 0 = a[x] := by simp [hxa]
    have hbx := bb _ (List.getElem_mem hxb)
    have hax := ba _ (List.getElem_mem hxa)
    refine Wl.atInt h hxb fun _ => Wi.geqC (fun hge => Wi.tru ?_) fun hlt => Wi.fls ?_
    · have e : bkTo a b before (x + 1) = bkTo a b before x := by
        rw [bkTo, if_neg]
        unfold canOk
        rw [Bool.and_eq_true, decide_eq_true_iff]
        omega
      unfold f74.j1
      exact Wi.add hI (hJ _ _ hxb ⟨u, t, rfl, by rw [e]; exact ht, by rw [e]; exact h⟩)
    · have hneg : b[x] < 0 := by omega
      have hlow := canF_low ba bb (i := x) (by rw [ebx]; exact hneg)
      have hg0 : (Int.gcd a[x] b[x] : Int) ≠ 0 := by
        have := gcd_pos (n := a[x]) (d := b[x]) (by omega)
        omega
      refine Wl.atInt h hxa fun _ => Wi.call (fn102 (by unfold B64; omega) (by unfold B64; omega) (Wl.atInt h hxa fun _ => Wi.quo hg0 (i64A (quoA hax) (by decide)) (Wi.neg (by unfold I64; omega) (Wi.quo hg0 (i64A (quoA (negA hbx)) (by decide)) ?_))))
      have ec : canF a b x = (a[x].tdiv (Int.gcd a[x] b[x]), (-b[x]).tdiv (Int.gcd a[x] b[x])) := by
        unfold canF
        rw [eax, ebx, frac_pos' (by omega), Int.gcd_neg]
      refine Wi.build (cells := frC (canF a b x)) (by rw [ec]; rfl) (Wl.new h fun H b4 h => Wl.putA h rfl rfl rfl fun H h => Wl.getA h rfl (Wl.getA h rfl ?_))
      generalize hcc : canF a b x = c at *
      have m1 := lowMul (low_ok hlow) hbe
      refine Wi.call (fn38 (A := 768000000 * 768000000) (B := 768000000 * 768000000) m1.1 m1.2 (by decide) fun H l => ?_)
      have h := h.to l
      have hok : canOk a b before x = true ↔ before.1 * c.2 < c.1 * before.2 := by
        unfold canOk fLt
        rw [hcc, ebx, decide_eq_true hneg, Bool.true_and, decide_eq_true_iff]
      refine Wi.leqC (fun hle => Wi.tru ?_) fun hgt => Wi.fls (Wl.len h ?_)
      · rw [sgI_pos'] at hle
        have e : bkTo a b before (x + 1) = bkTo a b before x := by
          rw [bkTo, if_neg]
          rw [hok]
          omega
        unfold f74.j1
        exact Wi.add hI (hJ _ _ hxb ⟨u, t, rfl, by rw [e]; exact ht, by rw [e]; exact h.tl⟩)
      rw [sgI_pos'] at hgt
      have hok' := hok.2 (by omega)
      have hbk : bkTo a b before (x + 1) = if (bkTo a b before x).2 = [] ∨ fLt c (bkTo a b before x).1 = true then (c, [(x : Int)]) else if c = (bkTo a b before x).1 then ((bkTo a b before x).1, (bkTo a b before x).2 ++ [(x : Int)]) else bkTo a b before x := by
        rw [bkTo, if_pos hok', hcc]
      -- what follows a comparison
      have fresh : ∀ H, bkTo a b before (x + 1) = (c, [(x : Int)]) → Ab.Loc H0 [.box b4 (frC c), .grow Rd.int 3 u (bkTo a b before x).2, .box b3 (frC t), .box b2 (frC (0, 0)), .box b1 (frC before), .lent RS [vb] b, .lent RS [va] a] H →
          W.getN 2 (pt b4 0) H fun v30 H => W.lit 1 [.int .i64 0] 3 [(0, 1, .int .i64 (x : Nat))] H fun v31 H => W.putN 2 (pt b3 0) v30 H fun _ H => f74.j3 Q (.int .i64 (x : Nat)) J v31 H := fun H e h => by
        refine Wl.getA h rfl (Wl.lit1 (r := Rd.int) (x := (x : Int)) rfl rfl rfl (fun _ => ⟨rfl, rfl, by unfold I64; omega⟩) h fun H w h => Wl.putA (vs := frC c) h rfl rfl rfl fun H h => ?_)
        unfold f74.j3 f74.j1
        refine Wi.add hI (hJ _ _ hxb ⟨w, c, rfl, by rw [e]; exact fun _ => rfl, ?_⟩)
        rw [e]
        exact (h.cut 1).cut 1
      have hbl := bk_low (before := before) ba bb x
      refine Wi.gtrC (fun hpos => Wi.tru ?_) fun hzero => Wi.fls ?_
      · have hne : (bkTo a b before x).2 ≠ [] := fun e => by rw [e] at hpos; simp at hpos
        have et := ht hne
        subst et
        have m2 := lowMul (low_ok hlow) hbl
        refine Wl.getA h rfl (Wl.getA h rfl (Wi.call (fn38 (A := 768000000 * 768000000) (B := 768000000 * 768000000) m2.1 m2.2 (by decide) fun H l => ?_)))
        have h := h.to l
        unfold f74.j2
        refine Wi.lssC (fun hl => Wi.tru ?_) fun hnl => Wi.fls ?_
        · rw [sgI_lt] at hl
          exact fresh _ (by rw [hbk, if_pos (.inr (by unfold fLt; rw [decide_eq_true_iff]; omega))]) h
        · rw [sgI_lt] at hnl
          have hnf : ¬ ((bkTo a b before x).2 = [] ∨ fLt c (bkTo a b before x).1 = true) := fun g => g.elim hne fun g => by
            unfold fLt at g
            rw [decide_eq_true_iff] at g
            omega
          rw [if_neg hnf] at hbk
          refine Wi.eqlC (fun he => Wi.tru ?_) fun hn2 => Wi.fls ?_
          · rw [sgI_zero] at he
            have ec := (frac_cross (by have := hlow.1; omega) (by have := hbl.1; omega) hlow.2.2 hbl.2.2).1 (show c.1 * (bkTo a b before x).1.2 = (bkTo a b before x).1.1 * c.2 by omega)
            rw [if_pos ec] at hbk
            refine Wl.pushP (r := Rd.int) (x := (x : Int)) (i := 1) rfl rfl rfl (fun _ => ⟨rfl, rfl, by unfold I64; omega⟩) h (by omega) fun H u' h => ?_
            unfold f74.j4 f74.j3 f74.j1
            exact Wi.add hI (hJ _ _ hxb ⟨u', _, rfl, by rw [hbk]; exact fun _ => rfl, by rw [hbk]; exact h.cut 0⟩)
          · rw [Ne, sgI_zero] at hn2
            have ec : ¬ c = (bkTo a b before x).1 := fun e => hn2 (by rw [← e]; omega)
            rw [if_neg ec] at hbk
            unfold f74.j4 f74.j3 f74.j1
            exact Wi.add hI (hJ _ _ hxb ⟨u, _, rfl, by rw [hbk]; exact fun _ => rfl, by rw [hbk]; exact h.cut 0⟩)
      · have he : (bkTo a b before x).2 = [] := List.eq_nil_of_length_eq_zero (by omega)
        unfold f74.j2
        exact Wi.lssC (fun _ => Wi.tru (fresh _ (by rw [hbk, if_pos (.inl he)]) h)) fun g => absurd (by decide) g
  · have : x = b.length := by omega
    subst this
    refine Wl.getA h rfl (Wl.len h (Wi.gtr (Wl.putA (b := b2) h rfl rfl rfl fun H h => Wl.getA h rfl ?_)))
    have hd : decide ((0 : Int) < ((bkTo a b before b.length).2.length : Nat)) = decide (0 < (bkTo a b before b.length).2.length) := by
      rw [Bool.eq_iff_iff, decide_eq_true_iff, decide_eq_true_iff]
      omega
    rw [hd]
    exact hQ _ u t ((h.asData (i := 0) rfl).ret (i := 0) rfl) ht

theorem fn92 {H0 : Heap} {Q : Post} {v : Value} {l : List Int} {d : Int} (hr : Has RS H0 [v] l) (hn : l.length ≤ 5) (hb : ∀ e ∈ l, e.natAbs ≤ 768000000) (hd : d ≠ 0) (hQ : ∀ H' u, Fresh RS H0 [u] (l.map fun x => sgI d * x) H' → Q u H') :
    Runs Try.prog 92 #[v, .int .i64 d] H0 Q := by
  refine f92.enter ?_
  unfold f92.w
  have h := (Loc.start H0).lent hr
  refine Wl.lit0 (ty := 2) Rd.int rfl h fun H u h => ?_
  refine W.for_rule l.length (fun x st H => ∃ u, st = (u, .int .i64 (x : Nat), ()) ∧ Ab.Loc H0 [.grow Rd.int 2 u ((l.take x).map fun x => sgI d * x), .lent RS [v] l] H) ⟨_, rfl, h⟩ ?_
  rintro x st H J hx ⟨u, rfl, h⟩ hJ
  have hI : I64 ((x : Int) + 1) := by unfold I64; omega
  refine Wl.len h (Wi.lssC (fun hlt => Wi.tru ?_) fun hge => Wi.fls ?_)
  · have hxl : x < l.length := by omega
    have hb1 := hb _ (List.getElem_mem hxl)
    have es : (l.take (x + 1)).map (fun x => sgI d * x) = (l.take x).map (fun x => sgI d * x) ++ [sgI d * l[x]] := by
      rw [List.take_succ_eq_append_getElem hxl, List.map_append]
      rfl
    have hlen : ((l.take x).map fun x => sgI d * x).length < 16777216 := by simp; omega
    have e1 : (if d < 0 then -l[x] else l[x]) = sgI d * l[x] := by
      unfold sgI
      split
      · omega
      · rw [if_pos (by omega)]; omega
    refine Wi.lssC (fun hlt => Wi.tru ?_) fun hge => Wi.fls ?_
    · rw [if_pos hlt] at e1
      refine Wl.atInt h hxl fun _ => Wi.neg (by unfold I64; omega) (Wl.pushP (r := Rd.int) (x := -l[x]) rfl rfl rfl (fun _ => ⟨rfl, rfl, by unfold I64; omega⟩) h hlen fun H u' h => ?_)
      unfold f92.j1
      exact Wi.add hI (hJ _ _ hxl ⟨u', rfl, by rw [es, ← e1]; exact h⟩)
    · rw [if_neg hge] at e1
      refine Wl.atInt h hxl fun _ => (Wl.pushP (r := Rd.int) (x := l[x]) rfl rfl rfl (fun _ => ⟨rfl, rfl, by unfold I64; omega⟩) h hlen fun H u' h => ?_)
      unfold f92.j1
      exact Wi.add hI (hJ _ _ hxl ⟨u', rfl, by rw [es, ← e1]; exact h⟩)
  · have : x = l.length := by omega
    subst this
    rw [List.take_length] at h
    exact hQ _ _ ((h.asData (i := 0) rfl).ret (i := 0) rfl)

theorem fn93 {H0 : Heap} {Q : Post} {va vb : Value} {a b : List Int} {before : Frac} (ha : Has RS H0 [va] a) (hb : Has RS H0 [vb] b) (hl : a.length = b.length) (hn : b.length ≤ 5)
    (ba : ∀ e ∈ a, e.natAbs ≤ 768000000) (bb : ∀ e ∈ b, e.natAbs ≤ 768000000) (hbe : Low before)
    (hQ : ∀ H', H0.Le H' → Q (.tuple #[.agg (frC (bkTo a b before b.length).1).toArray, .int .i64 ((bkTo a b before b.length).2.getD 0 0), .int .i64 ((bkTo a b before b.length).2.length : Nat), .bool (decide (0 < (bkTo a b before b.length).2.length))]) H') :
    Runs Try.prog 93 #[va, vb, .agg (frC before).toArray] H0 Q := by
  refine f93.enter ?_
  unfold f93.w
  have h := ((Loc.start H0).lent ha).lent hb
  refine Wl.box h fun H b1 h => Wl.new h fun H b2 h => Wi.build (cells := frC (0, 1)) rfl (Wl.new h fun H b3 h => Wl.putA h rfl rfl rfl fun H h => ?_)
  refine W.for_rule b.length (fun x st H => st = (.int .i64 ((bkTo a b before x).2.getD 0 0), .int .i64 ((bkTo a b before x).2.length : Nat), .bool (decide (0 < (bkTo a b before x).2.length)), .int .i64 (x : Nat), ()) ∧ Ab.Loc H0 [.box b3 (frC (bkTo a b before x).1), .box b2 (frC (0, 0)), .box b1 (frC before), .lent RS [vb] b, .lent RS [va] a] H)
    ⟨rfl, h⟩ ?_
  rintro x st H J hx ⟨rfl, h⟩ hJ
  have hI : I64 ((x : Int) + 1) := by unfold I64; omega
  have hlen := bk_len (a := a) (b := b) (before := before) x
  refine Wl.len h (Wi.lssC (fun hlt => Wi.tru ?_) fun hge => Wi.fls ?_)
  · have hxb : x < b.length := by omega
    have hxa : x < a.length := by omega
    have ebx : b.getD x 0 = b[x] := by simp [hxb]
    have eax : a.getD x 0 = a[x] := by simp [hxa]
    have hbx := bb _ (List.getElem_mem hxb)
    have hax := ba _ (List.getElem_mem hxa)
    have same : bkTo a b before (x + 1) = bkTo a b before x → ∀ H, Ab.Loc H0 [.box b3 (frC (bkTo a b before x).1), .box b2 (frC (0, 0)), .box b1 (frC before), .lent RS [vb] b, .lent RS [va] a] H →
        f93.j1 Q (.int .i64 (x : Nat)) J (.int .i64 ((bkTo a b before x).2.getD 0 0)) (.int .i64 ((bkTo a b before x).2.length : Nat)) (.bool (decide (0 < (bkTo a b before x).2.length))) H := fun e H h => by
      unfold f93.j1
      exact Wi.add hI (hJ _ _ hxb ⟨by rw [e]; rfl, by rw [e]; exact h⟩)
    refine Wl.atInt h hxb fun _ => Wi.geqC (fun hge => Wi.tru ?_) fun hlt => Wi.fls ?_
    · refine same ?_ _ h
      rw [bkTo, if_neg]
      unfold canOk
      rw [Bool.and_eq_true, decide_eq_true_iff]
      omega
    · have hneg : b[x] < 0 := by omega
      have hlow := canF_low ba bb (i := x) (by rw [ebx]; exact hneg)
      have hbl := bk_low (before := before) ba bb x
      have ec : canF a b x = frac a[x] (-b[x]) := by
        unfold canF
        rw [eax, ebx]
      refine Wl.atInt h hxa fun _ => Wl.atInt h hxb fun _ => Wi.neg (by unfold I64; omega) (Wi.callQ (fn64 (by unfold B64; omega) (by unfold B64; omega) (by omega) fun H l => ⟨l, ?_⟩))
      have h := h.to l
      rw [← ec]
      refine Wl.new h fun H b4 h => Wl.putA h rfl rfl rfl fun H h => Wl.getA h rfl (Wl.getA h rfl ?_)
      generalize hcc : canF a b x = c at *
      have m1 := lowMul (low_ok hlow) hbe
      refine Wi.call (fn32 (i64A m1.2 (by decide)) (i64A m1.1 (by decide)) fun H l => ?_)
      have h := h.to l
      have hok : canOk a b before x = true ↔ before.1 * c.2 < c.1 * before.2 := by
        unfold canOk fLt
        rw [hcc, ebx, decide_eq_true hneg, Bool.true_and, decide_eq_true_iff]
      by_cases hlt2 : before.1 * c.2 < c.1 * before.2
      · rw [decide_eq_true hlt2]
        have hok' := hok.2 hlt2
        have hbk : bkTo a b before (x + 1) = if (bkTo a b before x).2 = [] ∨ fLt c (bkTo a b before x).1 = true then (c, [(x : Int)]) else if c = (bkTo a b before x).1 then ((bkTo a b before x).1, (bkTo a b before x).2 ++ [(x : Int)]) else bkTo a b before x := by
          rw [bkTo, if_pos hok', hcc]
        simp only [gw]
        have fresh : ∀ H, bkTo a b before (x + 1) = (c, [(x : Int)]) → Ab.Loc H0 [.box b4 (frC c), .box b3 (frC (bkTo a b before x).1), .box b2 (frC (0, 0)), .box b1 (frC before), .lent RS [vb] b, .lent RS [va] a] H →
            W.getN 2 (pt b4 0) H fun v30 H => W.putN 2 (pt b3 0) v30 H fun _ H => f93.j2 Q (.int .i64 (x : Nat)) J (.int .i64 (x : Nat)) (.int .i64 1) (.bool true) H := fun H e h => by
          refine Wl.getA h rfl (Wl.putA (vs := frC c) h rfl rfl rfl fun H h => ?_)
          unfold f93.j2 f93.j1
          exact Wi.add hI (hJ _ _ hxb ⟨by rw [e]; rfl, by rw [e]; exact h.cut 0⟩)
        by_cases hpos : 0 < (bkTo a b before x).2.length
        · have hne : (bkTo a b before x).2 ≠ [] := fun e => by rw [e] at hpos; simp at hpos
          rw [decide_eq_true hpos]
          simp only [gw]
          have m2 := lowMul (low_ok hlow) hbl
          refine Wl.getA h rfl (Wl.getA h rfl (Wi.call (fn32 (i64A m2.1 (by decide)) (i64A m2.2 (by decide)) fun H l => ?_)))
          have h := h.to l
          by_cases hl : c.1 * (bkTo a b before x).1.2 < (bkTo a b before x).1.1 * c.2
          · rw [decide_eq_true hl]
            simp only [gw]
            exact fresh _ (by rw [hbk, if_pos (.inr (by unfold fLt; rw [decide_eq_true_iff]; exact hl))]) h
          · rw [decide_eq_false hl]
            simp only [gw]
            have hnf : ¬ ((bkTo a b before x).2 = [] ∨ fLt c (bkTo a b before x).1 = true) := fun g => g.elim hne fun g => hl (by
              unfold fLt at g
              rwa [decide_eq_true_iff] at g)
            rw [if_neg hnf] at hbk
            have i1 := i64_low hlow
            have i2 := i64_low hbl
            refine Wl.getA h rfl (Wl.getA h rfl (Wi.eqPair i1.1 i1.2 i2.1 i2.2 ?_))
            by_cases he : c = (bkTo a b before x).1
            · rw [if_pos he] at hbk
              have : (decide (c.1 = (bkTo a b before x).1.1) && decide (c.2 = (bkTo a b before x).1.2)) = true := by rw [he]; simp
              rw [this]
              simp only [gw]
              refine Wi.add (by unfold I64; omega) ?_
              unfold f93.j3 f93.j2 f93.j1
              refine Wi.add hI (hJ _ _ hxb ⟨?_, by rw [hbk]; exact h.cut 0⟩)
              rw [hbk]
              have e0 : ((bkTo a b before x).2 ++ [(x : Int)]).getD 0 0 = (bkTo a b before x).2.getD 0 0 := by
                simp only [List.getD_eq_getElem?_getD]
                rw [List.getElem?_append_left hpos]
              simp only [e0, List.length_append, List.length_singleton]
              simp
              rfl
            · rw [if_neg he] at hbk
              have : (decide (c.1 = (bkTo a b before x).1.1) && decide (c.2 = (bkTo a b before x).1.2)) = false := by
                rw [Bool.and_eq_false_iff, decide_eq_false_iff_not, decide_eq_false_iff_not]
                apply Classical.byContradiction
                intro g
                rw [not_or, Classical.not_not, Classical.not_not] at g
                exact he (Prod.ext g.1 g.2)
              rw [this]
              simp only [gw]
              unfold f93.j3 f93.j2
              have := same hbk _ (h.cut 0)
              rw [decide_eq_true hpos] at this
              exact this
        · have he : (bkTo a b before x).2 = [] := List.eq_nil_of_length_eq_zero (by omega)
          rw [decide_eq_false hpos]
          simp only [gw]
          exact fresh _ (by rw [hbk, if_pos (.inl he)]) h
      · rw [decide_eq_false hlt2]
        simp only [gw]
        refine same ?_ _ (h.cut 0)
        rw [bkTo, if_neg]
        rw [hok]
        exact hlt2
  · have : x = b.length := by omega
    subst this
    refine Wl.getA h rfl (Wl.putA (b := b2) h rfl rfl rfl fun H h => Wl.getA h rfl ?_)
    exact hQ _ h.le

end Go.Proofs.Ytakbahndgmiobaa
