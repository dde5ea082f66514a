/- Lists of numbers compared. No condition. -/
import Derived.Test.YtgdiebnokgnniaaGreatDoorA1
import Derived.Test.YtgdiebnokgnniaaGreatDoorZabG4
import Derived.Test.YtgdiebnokgnniaaGreatDoorZabG5
namespace Go.Proofs.YtgdiebnokgnniaaGreatDoor
open Go.Ab

/- loop.example/g01343/laws.likeInts -/
def f56.l1 (Q : Post) (a_0 : Value) (b_1 : Value) (I1 : St [5] → Heap → Prop) (i_5 : Value) (H : Heap) : Prop :=
  W.len a_0 H fun v4 H =>
  W.bin .lss i_5 v4 H fun v5 H =>
  W.cond v5 H
  (fun H => W.indexAddr 1 a_0 i_5 H fun v6 H =>
   W.get v6 H fun v7 H =>
   W.indexAddr 1 b_1 i_5 H fun v8 H =>
   W.get v8 H fun v9 H =>
   W.bin .neq v7 v9 H fun v10 H =>
   W.cond v10 H
   (fun H => Q (.bool false) H)
   (fun H => W.bin .add i_5 (.int .i64 1) H fun v11 H =>
    I1 (v11, ()) H))
  (fun H => Q (.bool true) H)
def f56.w (Q : Post) (a_0 : Value) (b_1 : Value) (H : Heap) : Prop :=
  W.len a_0 H fun v1 H =>
  W.len b_1 H fun v2 H =>
  W.bin .neq v1 v2 H fun v3 H =>
  W.cond v3 H
  (fun H => Q (.bool false) H)
  (fun H => W.loop (S := St [5]) (fun I1 s H => f56.l1 Q a_0 b_1 I1 s.1 H) ((.int .i64 0), ()) H)
theorem f56.enter {Q : Post} {a_0 : Value} {b_1 : Value} {H : Heap} (h : f56.w Q a_0 b_1 H) : Runs Tryz.prog 56 #[a_0, b_1] H Q :=
  fn_enter (ann := [(4, [5])]) (by kernel_rfl) Tryz.func56 rfl (by kernel_rfl) h (by kernel_rfl)


theorem fn56 {H0 : Heap} {Q : Post} {va vb : Value} {a b : List Int} (ha : Has RS H0 [va] a) (hb : Has RS H0 [vb] b) (hQ : Q (.bool (decide (a = b))) H0) : Runs Tryz.prog 56 #[va, vb] H0 Q := by
  have hsa := ha.small
  refine f56.enter (Wl.lenH ha (Wl.lenH hb (Wi.neqC (fun hne => Wi.tru ?_) fun he => Wi.fls ?_)))
  · rw [decide_eq_false (fun e => hne (by rw [e]))] at hQ
    exact hQ
  have hl : a.length = b.length := by omega
  refine W.for_rule a.length (fun i st H => H = H0 ∧ st = (.int .i64 (i : Nat), ()) ∧ ∀ j (hj : j < a.length), j < i → a[j] = b[j]) ⟨rfl, rfl, fun j _ hj => by omega⟩ ?_
  rintro i st H J hi ⟨rfl, rfl, hok⟩ hJ
  refine Wl.lenH ha (Wi.lssC (fun hlt => Wi.tru ?_) fun hge => Wi.fls ?_)
  · have hia : i < a.length := by omega
    refine Wl.atIntH ha hia fun _ => Wl.atIntH hb (i := i) (by omega) fun _ => Wi.neqC (fun hne => Wi.tru ?_) fun he => Wi.fls ?_
    · rw [decide_eq_false (fun e => hne (by subst e; rfl))] at hQ
      exact hQ
    · refine Wi.add (by unfold I64; omega) (hJ _ _ hia ⟨rfl, rfl, fun j hj hji => ?_⟩)
      by_cases e : j = i
      · subst e; exact he
      · exact hok j hj (by omega)
  · have : a = b := List.ext_getElem hl fun j h1 _ => hok j h1 (by omega)
    rw [decide_eq_true this] at hQ
    exact hQ

end Go.Proofs.YtgdiebnokgnniaaGreatDoor
