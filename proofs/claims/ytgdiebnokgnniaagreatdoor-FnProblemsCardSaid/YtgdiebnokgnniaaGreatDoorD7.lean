/- Contracts of functions that the law FnExactRenumberProblem reaches. No condition. -/
import Derived.Test.YtgdiebnokgnniaaGreatDoorGAA
import Derived.Test.YtgdiebnokgnniaaGreatDoorGAB
import Derived.Test.YtgdiebnokgnniaaGreatDoorZabG5
namespace Go.Proofs.YtgdiebnokgnniaaGreatDoor
open Go.Ab

/- slices.Index[[]int64,int64] -/
def f135.l1 (Q : Post) (v1 : Value) (s_0 : Value) (v_1 : Value) (I1 : St [8] → Heap → Prop) (x_8 : Value) (H : Heap) : Prop :=
  W.bin .lss x_8 v1 H fun v2 H =>
  W.cond v2 H
  (fun H => W.indexAddr 1 s_0 x_8 H fun v3 H =>
   W.get v3 H fun v4 H =>
   W.bin .eql v_1 v4 H fun v5 H =>
   W.cond v5 H
   (fun H => Q x_8 H)
   (fun H => W.bin .add x_8 (.int .i64 1) H fun v6 H =>
    I1 (v6, ()) H))
  (fun H => Q (.int .i64 (-1)) H)
def f135.w (Q : Post) (s_0 : Value) (v_1 : Value) (H : Heap) : Prop :=
  W.len s_0 H fun v1 H =>
  W.loop (S := St [8]) (fun I1 s H => f135.l1 Q v1 s_0 v_1 I1 s.1 H) ((.int .i64 0), ()) H
theorem f135.enter {Q : Post} {s_0 : Value} {v_1 : Value} {H : Heap} (h : f135.w Q s_0 v_1 H) : Runs Tryz.prog 135 #[s_0, v_1] H Q :=
  fn_enter (ann := [(2, [8])]) (by kernel_rfl) Tryz.func135 rfl (by kernel_rfl) h (by kernel_rfl)

/- slices.Contains[[]int64,int64] -/
def f111.w (Q : Post) (s_0 : Value) (v_1 : Value) (H : Heap) : Prop :=
  W.call Tryz.prog (.func (.func 135) #[] #[]) #[s_0, v_1] H fun v1 H =>
  W.bin .geq v1 (.int .i64 0) H fun v2 H =>
  Q v2 H
theorem f111.enter {Q : Post} {s_0 : Value} {v_1 : Value} {H : Heap} (h : f111.w Q s_0 v_1 H) : Runs Tryz.prog 111 #[s_0, v_1] H Q :=
  fn_enter (ann := []) (by kernel_rfl) Tryz.func111 rfl (by kernel_rfl) h (by kernel_rfl)

/- loop.example/g01343/impl.isOrder -/
def f63.l1 (Q : Post) (n_1 : Value) (list_0 : Value) (I1 : St [11] → Heap → Prop) (x_11 : Value) (H : Heap) : Prop :=
  W.bin .lss x_11 n_1 H fun v3 H =>
  W.cond v3 H
  (fun H => W.call Tryz.prog (.func (.func 111) #[] #[]) #[list_0, x_11] H fun v4 H =>
   W.un .not v4 H fun v5 H =>
   W.cond v5 H
   (fun H => Q (.bool false) H)
   (fun H => W.bin .add x_11 (.int .i64 1) H fun v6 H =>
    I1 (v6, ()) H))
  (fun H => Q (.bool true) H)
def f63.w (Q : Post) (list_0 : Value) (n_1 : Value) (H : Heap) : Prop :=
  W.len list_0 H fun v1 H =>
  W.bin .neq v1 n_1 H fun v2 H =>
  W.cond v2 H
  (fun H => Q (.bool false) H)
  (fun H => W.loop (S := St [11]) (fun I1 s H => f63.l1 Q n_1 list_0 I1 s.1 H) ((.int .i64 0), ()) H)
theorem f63.enter {Q : Post} {list_0 : Value} {n_1 : Value} {H : Heap} (h : f63.w Q list_0 n_1 H) : Runs Tryz.prog 63 #[list_0, n_1] H Q :=
  fn_enter (ann := [(4, [11])]) (by kernel_rfl) Tryz.func63 rfl (by kernel_rfl) h (by kernel_rfl)


theorem fn135 {H : Heap} {Q : Post} {bs : List Nat} {v : Value} {xs : List Int} {y : Int} (hr : RS.rel H bs [v] xs) (hQ : Q (.int .i64 (idxOf (fun x => y == x) xs)) H) : Runs Tryz.prog 135 #[v, .int .i64 y] H Q := by
  have hx := Rd.slice_small hr
  refine f135.enter ?_
  unfold f135.w
  refine Wi.lenOf hr ?_
  refine W.loop_rule (fun s H' => ∃ i : Nat, s = (.int .i64 i, ()) ∧ i ≤ xs.length ∧ H' = H ∧ ∀ (j : Nat) (hj : j < i) (g1 : j < xs.length), (y == xs[j]) = false)
    (fun s _ => match s.1 with | .int _ i => xs.length - i.toNat | _ => 0) ⟨0, rfl, Nat.zero_le _, rfl, fun j hj => by omega⟩ ?_
  rintro s H1 ⟨i, rfl, hi, rfl, hno⟩
  unfold f135.l1
  refine Wi.lss (Wi.cond (fun hlt => ?_) fun hge => ?_)
  · have hix : i < xs.length := by simp only [decide_eq_true_eq] at hlt; omega
    refine Wi.atInt hr hix (Wi.eql (Wi.cond (fun ht => ?_) fun hf => ?_))
    · have e : idxOf (fun x => y == x) xs = i := by
        have : xs.findIdx? (fun x => y == x) = some i := List.findIdx?_eq_some_iff_getElem.2 ⟨hix, ht, fun j hj => by simp [hno j hj (by omega)]⟩
        simp [idxOf, this]
      rw [e] at hQ
      exact hQ
    · refine Wi.add (by unfold I64; omega) ⟨⟨i + 1, rfl, by omega, rfl, fun j hj g1 => ?_⟩, by simp only; omega⟩
      by_cases hji : j < i
      · exact hno j hji g1
      · have : j = i := by omega
        subst this
        exact hf
  · have hii : i = xs.length := by simp only [decide_eq_false_iff_not] at hge; omega
    subst hii
    have e : idxOf (fun x => y == x) xs = -1 := by
      have : xs.findIdx? (fun x => y == x) = none := by
        rw [List.findIdx?_eq_none_iff]
        intro x hx
        obtain ⟨j, hj, rfl⟩ := List.mem_iff_getElem.1 hx
        exact hno j hj hj
      simp [idxOf, this]
    rw [e] at hQ
    exact hQ

theorem fn111 {H : Heap} {Q : Post} {bs : List Nat} {v : Value} {xs : List Int} {y : Int} (hr : RS.rel H bs [v] xs) (hQ : Q (.bool (xs.contains y)) H) : Runs Tryz.prog 111 #[v, .int .i64 y] H Q := by
  refine f111.enter (Wi.call (fn135 hr (Wi.geq ?_)))
  rw [idxOf_any]
  have e : (xs.any fun x => y == x) = xs.contains y := by rw [List.contains_eq_any_beq]
  rw [e]
  exact hQ

theorem fn63 {H : Heap} {Q : Post} {bs : List Nat} {v : Value} {xs : List Int} {n : Nat} (hn : n < 4611686018427387904) (hr : RS.rel H bs [v] xs) (hQ : Q (.bool (isOrd n xs)) H) : Runs Tryz.prog 63 #[v, .int .i64 n] H Q := by
  refine f63.enter ?_
  unfold f63.w
  refine Wi.lenOf hr (Wi.neq ?_)
  rw [int_bne]
  unfold isOrd at hQ
  cases hl : decide (xs.length = n) with
  | false => rw [hl] at hQ; exact Wi.tru hQ
  | true =>
    rw [hl, Bool.true_and] at hQ
    refine Wi.fls ?_
    refine W.loop_rule (fun s H' => ∃ i : Nat, s = (.int .i64 i, ()) ∧ i ≤ n ∧ H' = H ∧ ∀ (j : Nat) (_ : j < i), xs.contains (j : Int) = true)
      (fun s _ => match s.1 with | .int _ i => n - i.toNat | _ => 0) ⟨0, rfl, Nat.zero_le _, rfl, fun j hj => by omega⟩ ?_
    rintro s H1 ⟨i, rfl, hi, rfl, ok⟩
    unfold f63.l1
    refine Wi.lss (Wi.cond (fun hlt => ?_) fun hge => ?_)
    · have hix : i < n := by simp only [decide_eq_true_eq] at hlt; omega
      refine Wi.call (fn111 hr (Wi.not (Wi.cond (fun ht => ?_) fun hf => ?_)))
      · have e : ((List.range n).all fun i => xs.contains (i : Int)) = false := by
          rw [List.all_eq_false]
          exact ⟨i, by simpa using hix, by simpa using ht⟩
        rw [e] at hQ
        exact hQ
      · refine Wi.add (by unfold I64; omega) ⟨⟨i + 1, rfl, by omega, rfl, fun j hj => ?_⟩, by simp only; omega⟩
        by_cases hji : j < i
        · exact ok j hji
        · have : j = i := by omega
          subst this
          simpa using hf
    · have hii : i = n := by simp only [decide_eq_false_iff_not] at hge; omega
      subst hii
      have e : ((List.range i).all fun i => xs.contains (i : Int)) = true := by
        rw [List.all_eq_true]
        intro j hj
        exact ok j (by simpa using hj)
      rw [e] at hQ
      exact hQ

end Go.Proofs.YtgdiebnokgnniaaGreatDoor
