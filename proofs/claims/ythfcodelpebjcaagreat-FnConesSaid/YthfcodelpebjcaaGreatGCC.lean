/- Contracts of slices.Grow and slices.Concat, rows. No condition. -/
import Derived.Test.YthfcodelpebjcaaGreatGAB
import Derived.Test.YthfcodelpebjcaaGreatZabG5
namespace Go.Proofs.YthfcodelpebjcaaGreat
open Go.Ab




end Go.Proofs.YthfcodelpebjcaaGreat
/-! Contracts of slices.Grow and slices.Concat, numbers. No condition. -/
namespace Go.Proofs.YthfcodelpebjcaaGreat
open Go.Ab




end Go.Proofs.YthfcodelpebjcaaGreat

/-! The contract of the program's allPlaces. No condition. -/
namespace Go.Proofs.YthfcodelpebjcaaGreat
open Go.Ab

/- loop.example/g01343/impl.allPlaces -/
def f106.l2 (Q : Post) (v3 : Value) (is_1 : Value) (x_9 : Value) (I1 : St [9] → Heap → Prop) (I2 : St [14] → Heap → Prop) (x_14 : Value) (H : Heap) : Prop :=
  W.bin .lss x_14 v3 H fun v4 H =>
  W.cond v4 H
  (fun H => W.call Tryz.prog is_1 #[x_9, x_14] H fun v5 H =>
   W.un .not v5 H fun v6 H =>
   W.cond v6 H
   (fun H => Q (.bool false) H)
   (fun H => W.bin .add x_14 (.int .i64 1) H fun v7 H =>
    I2 (v7, ()) H))
  (fun H => W.bin .add x_9 (.int .i64 1) H fun v8 H =>
   I1 (v8, ()) H)
def f106.l1 (Q : Post) (v1 : Value) (m_0 : Value) (is_1 : Value) (I1 : St [9] → Heap → Prop) (x_9 : Value) (H : Heap) : Prop :=
  W.bin .lss x_9 v1 H fun v2 H =>
  W.cond v2 H
  (fun H => W.len m_0 H fun v3 H =>
   W.loop (S := St [14]) (fun I2 s H => f106.l2 Q v3 is_1 x_9 I1 I2 s.1 H) ((.int .i64 0), ()) H)
  (fun H => Q (.bool true) H)
def f106.w (Q : Post) (m_0 : Value) (is_1 : Value) (H : Heap) : Prop :=
  W.len m_0 H fun v1 H =>
  W.loop (S := St [9]) (fun I1 s H => f106.l1 Q v1 m_0 is_1 I1 s.1 H) ((.int .i64 0), ()) H
theorem f106.enter {Q : Post} {m_0 : Value} {is_1 : Value} {H : Heap} (h : f106.w Q m_0 is_1 H) : Runs Tryz.prog 106 #[m_0, is_1] H Q :=
  fn_enter (ann := [(2, [9]), (5, [14])]) (by kernel_rfl) Tryz.func106 rfl (by kernel_rfl) h (by kernel_rfl)


/-- A function value of two numbers that tells whether something holds. -/
def Pred2F (fv : Value) (H : Heap) (n : Nat) (p : Nat → Nat → Bool) : Prop :=
  ∀ (H' : Heap) (i k : Nat) (K : Post), H.Le H' → i < n → k < n → (∀ H2, H'.Le H2 → K (.bool (p i k)) H2) → W.call Tryz.prog fv #[.int .i64 i, .int .i64 k] H' K

theorem fn106 {α : Type} {r : Rd α} {H0 : Heap} {Q : Post} {v fv : Value} {m : List α} {p : Nat → Nat → Bool} (hr : Has (Rd.slice r) H0 [v] m) (hp : Pred2F fv H0 m.length p)
    (hQ : ∀ H', H0.Le H' → Q (.bool (allN m.length fun i => allN m.length (p i))) H') : Runs Tryz.prog 106 #[v, fv] H0 Q := by
  have hs : m.length < 9223372036854775808 := let ⟨_, h⟩ := hr; Rd.slice_small h
  refine f106.enter (Wl.lenH hr (W.all_rule m.length (fun i => allN m.length (p i)) (fun i H1 J hi _ l hJ => ?_) fun H1 J hall l => ?_))
  · refine Wi.lssC (fun _ => Wi.tru ?_) fun h => by omega
    refine Wl.lenH (hr.le l) (W.all_rule m.length (p i) (fun k H2 J2 hk _ l2 hJ2 => ?_) fun H2 J2 hall l2 => ?_)
    · refine Wi.lssC (fun _ => Wi.tru (hp _ _ _ _ (l.trans l2) hi hk fun H3 l3 => ?_)) fun h => by omega
      cases hpk : p i k with
      | false =>
        have := hQ H3 (l.trans (l2.trans l3))
        rw [allN_false hi (allN_false hk hpk)] at this
        exact this
      | true =>
        refine Wi.not (Wi.fls (Wi.add (by unfold I64; omega) ?_))
        exact hJ2 hpk H3 l3
    · refine Wi.lssC (fun h => by omega) fun _ => Wi.fls (Wi.add (by unfold I64; omega) ?_)
      exact hJ (allN_true hall) H2 l2
  · refine Wi.lssC (fun h => by omega) fun _ => ?_
    have := hQ H1 l
    rw [allN_true hall] at this
    exact this

end Go.Proofs.YthfcodelpebjcaaGreat
