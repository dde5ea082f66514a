/- Contracts of functions that the law FnExactRenumberProblem reaches. No condition. -/
import Derived.Test.YtdmgomeogedjgaaGreatGAB
import Derived.Test.YtdmgomeogedjgaaGreatZabOrd
import Derived.Test.YtdmgomeogedjgaaGreatZabG5
namespace Go.Proofs.YtdmgomeogedjgaaGreat
open Go.Ab

/- slices.Index[[]int64,int64] -/
def f124.l1 (Q : Post) (v1 : Value) (s_0 : Value) (v_1 : Value) (I1 : St [8] → Heap → Prop) (x_8 : Value) (H : Heap) : Prop :=
  W.bin .lss x_8 v1 H fun v2 H =>
  W.cond v2 H
  (fun H => W.indexAddr 1 s_0 x_8 H fun v3 H =>
   W.get v3 H fun v4 H =>
   W.bin .eql v_1 v4 H fun v5 H =>
   W.cond v5 H
   (fun H => Q x_8 H)
   (fun H => W.bin .add x_8 (.int .i64 1) H fun v6 H =>
    I1 (v6, ()) H))
  (fun H => Q (.int .i64 (-1)) H)
def f124.w (Q : Post) (s_0 : Value) (v_1 : Value) (H : Heap) : Prop :=
  W.len s_0 H fun v1 H =>
  W.loop (S := St [8]) (fun I1 s H => f124.l1 Q v1 s_0 v_1 I1 s.1 H) ((.int .i64 0), ()) H
theorem f124.enter {Q : Post} {s_0 : Value} {v_1 : Value} {H : Heap} (h : f124.w Q s_0 v_1 H) : Runs Tryz.prog 124 #[s_0, v_1] H Q :=
  fn_enter (ann := [(2, [8])]) (by kernel_rfl) Tryz.func124 rfl (by kernel_rfl) h (by kernel_rfl)

/- slices.Contains[[]int64,int64] -/
def f74.w (Q : Post) (s_0 : Value) (v_1 : Value) (H : Heap) : Prop :=
  W.call Tryz.prog (.func (.func 124) #[] #[]) #[s_0, v_1] H fun v1 H =>
  W.bin .geq v1 (.int .i64 0) H fun v2 H =>
  Q v2 H
theorem f74.enter {Q : Post} {s_0 : Value} {v_1 : Value} {H : Heap} (h : f74.w Q s_0 v_1 H) : Runs Tryz.prog 74 #[s_0, v_1] H Q :=
  fn_enter (ann := []) (by kernel_rfl) Tryz.func74 rfl (by kernel_rfl) h (by kernel_rfl)


theorem fn124 {H : Heap} {Q : Post} {bs : List Nat} {v : Value} {xs : List Int} {y : Int} (hr : RS.rel H bs [v] xs) (hQ : Q (.int .i64 (idxOf (fun x => y == x) xs)) H) : Runs Tryz.prog 124 #[v, .int .i64 y] H Q := by
  have hx := Rd.slice_small hr
  refine f124.enter ?_
  unfold f124.w
  refine Wi.lenOf hr ?_
  refine W.loop_rule (fun s H' => ∃ i : Nat, s = (.int .i64 i, ()) ∧ i ≤ xs.length ∧ H' = H ∧ ∀ (j : Nat) (hj : j < i) (g1 : j < xs.length), (y == xs[j]) = false)
    (fun s _ => match s.1 with | .int _ i => xs.length - i.toNat | _ => 0) ⟨0, rfl, Nat.zero_le _, rfl, fun j hj => by omega⟩ ?_
  rintro s H1 ⟨i, rfl, hi, rfl, hno⟩
  unfold f124.l1
  refine Wi.lss (Wi.cond (fun hlt => ?_) fun hge => ?_)
  · have hix : i < xs.length := by simp only [decide_eq_true_eq] at hlt; omega
    refine Wi.atInt hr hix (Wi.eql (Wi.cond (fun ht => ?_) fun hf => ?_))
    · have e : idxOf (fun x => y == x) xs = i := by
        have : xs.findIdx? (fun x => y == x) = some i := List.findIdx?_eq_some_iff_getElem.2 ⟨hix, ht, fun j hj => by simp [hno j hj (by omega)]⟩
        simp [idxOf, this]
      rw [e] at hQ
      exact hQ
    · refine Wi.add (by unfold I64; omega) ⟨⟨i + 1, rfl, by omega, rfl, fun j hj g1 => ?_⟩, by simp only; omega⟩
      by_cases hji : j < i
      · exact hno j hji g1
      · have : j = i := by omega
        subst this
        exact hf
  · have hii : i = xs.length := by simp only [decide_eq_false_iff_not] at hge; omega
    subst hii
    have e : idxOf (fun x => y == x) xs = -1 := by
      have : xs.findIdx? (fun x => y == x) = none := by
        rw [List.findIdx?_eq_none_iff]
        intro x hx
        obtain ⟨j, hj, rfl⟩ := List.mem_iff_getElem.1 hx
        exact hno j hj hj
      simp [idxOf, this]
    rw [e] at hQ
    exact hQ

theorem fn74 {H : Heap} {Q : Post} {bs : List Nat} {v : Value} {xs : List Int} {y : Int} (hr : RS.rel H bs [v] xs) (hQ : Q (.bool (xs.contains y)) H) : Runs Tryz.prog 74 #[v, .int .i64 y] H Q := by
  refine f74.enter (Wi.call (fn124 hr (Wi.geq ?_)))
  rw [idxOf_any]
  have e : (xs.any fun x => y == x) = xs.contains y := by rw [List.contains_eq_any_beq]
  rw [e]
  exact hQ


end Go.Proofs.YtdmgomeogedjgaaGreat
