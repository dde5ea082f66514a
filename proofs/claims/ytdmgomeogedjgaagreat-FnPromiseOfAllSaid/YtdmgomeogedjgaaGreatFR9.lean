/- Lists of fractions compared. No condition. -/
import Derived.Test.YtdmgomeogedjgaaGreatCF
namespace Go.Proofs.YtdmgomeogedjgaaGreat
open Go.Ab

/- loop.example/g01343/laws.fracs9 -/
def f14.l1 (Q : Post) (a_0 : Value) (b_1 : Value) (I1 : St [5] → Heap → Prop) (i_5 : Value) (H : Heap) : Prop :=
  W.len a_0 H fun v4 H =>
  W.bin .lss i_5 v4 H fun v5 H =>
  W.cond v5 H
  (fun H => W.indexAddr 2 a_0 i_5 H fun v6 H =>
   W.getN 2 v6 H fun v7 H =>
   W.indexAddr 2 b_1 i_5 H fun v8 H =>
   W.getN 2 v8 H fun v9 H =>
   W.eqPair .neq v7 v9 H fun v10 H =>
   W.cond v10 H
   (fun H => Q (.bool false) H)
   (fun H => W.bin .add i_5 (.int .i64 1) H fun v11 H =>
    I1 (v11, ()) H))
  (fun H => Q (.bool true) H)
def f14.w (Q : Post) (a_0 : Value) (b_1 : Value) (H : Heap) : Prop :=
  W.len a_0 H fun v1 H =>
  W.len b_1 H fun v2 H =>
  W.bin .neq v1 v2 H fun v3 H =>
  W.cond v3 H
  (fun H => Q (.bool false) H)
  (fun H => W.loop (S := St [5]) (fun I1 s H => f14.l1 Q a_0 b_1 I1 s.1 H) ((.int .i64 0), ()) H)
theorem f14.enter {Q : Post} {a_0 : Value} {b_1 : Value} {H : Heap} (h : f14.w Q a_0 b_1 H) : Runs Tryz.prog 14 #[a_0, b_1] H Q :=
  fn_enter (ann := [(4, [5])]) (by kernel_rfl) Tryz.func14 rfl (by kernel_rfl) h (by kernel_rfl)


theorem fn14 {H0 : Heap} {Q : Post} {va vb : Value} {a b : List Frac} (ha : Has RFS H0 [va] a) (hb : Has RFS H0 [vb] b) (hQ : Q (.bool (decide (a = b))) H0) : Runs Tryz.prog 14 #[va, vb] H0 Q := by
  have hsa := ha.small
  refine f14.enter (Wl.lenH ha (Wl.lenH hb (Wi.neqC (fun hne => Wi.tru ?_) fun he => Wi.fls ?_)))
  · rw [decide_eq_false (fun e => hne (by rw [e]))] at hQ
    exact hQ
  have hl : a.length = b.length := by omega
  refine W.for_rule a.length (fun i st H => H = H0 ∧ st = (.int .i64 (i : Nat), ()) ∧ ∀ j (hj : j < a.length), j < i → a[j] = b[j]) ⟨rfl, rfl, fun j _ hj => by omega⟩ ?_
  rintro i st H J hi ⟨rfl, rfl, hok⟩ hJ
  refine Wl.lenH ha (Wi.lssC (fun hlt => Wi.tru ?_) fun hge => Wi.fls ?_)
  · have hia : i < a.length := by omega
    refine Wl.atFrH ha hia fun i1 i2 => Wl.atFrH hb (i := i) (by omega) fun i3 i4 => Wi.nePair ⟨i1, i2⟩ ⟨i3, i4⟩ ?_
    by_cases hab : a[i] = b[i]
    · rw [decide_eq_true hab]
      refine Wi.fls (Wi.add (by unfold I64; omega) (hJ _ _ hia ⟨rfl, rfl, fun j hj hji => ?_⟩))
      by_cases e : j = i
      · subst e; exact hab
      · exact hok j hj (by omega)
    · rw [decide_eq_false hab]
      refine Wi.tru ?_
      rw [decide_eq_false (fun e => hab (by subst e; rfl))] at hQ
      exact hQ
  · have : a = b := List.ext_getElem hl fun j h1 _ => hok j h1 (by omega)
    rw [decide_eq_true this] at hQ
    exact hQ

end Go.Proofs.YtdmgomeogedjgaaGreat
