/- The laws' helpers for lists of fractions: comparing, weighing, copying. No condition. -/
import Derived.Test.YtbcfknboheghkaaF1
namespace Go.Proofs.Ytbcfknboheghkaa
open Go.Ab

/- loop.example/g01343/laws.eqFracS -/
def f8.l1 (Q : Post) (a_0 : Value) (b_1 : Value) (I1 : St [5] → Heap → Prop) (i_5 : Value) (H : Heap) : Prop :=
  W.len a_0 H fun v4 H =>
  W.bin .lss i_5 v4 H fun v5 H =>
  W.cond v5 H
  (fun H => W.indexAddr 2 a_0 i_5 H fun v6 H =>
   W.getN 2 v6 H fun v7 H =>
   W.indexAddr 2 b_1 i_5 H fun v8 H =>
   W.getN 2 v8 H fun v9 H =>
   W.callQ Try.prog (.func (.func 33) #[] #[]) #[v7, v9] H fun v10 H =>
   W.un .not v10 H fun v11 H =>
   W.cond v11 H
   (fun H => Q (.bool false) H)
   (fun H => W.bin .add i_5 (.int .i64 1) H fun v12 H =>
    I1 (v12, ()) H))
  (fun H => Q (.bool true) H)
def f8.w (Q : Post) (a_0 : Value) (b_1 : Value) (H : Heap) : Prop :=
  W.len a_0 H fun v1 H =>
  W.len b_1 H fun v2 H =>
  W.bin .neq v1 v2 H fun v3 H =>
  W.cond v3 H
  (fun H => Q (.bool false) H)
  (fun H => W.loop (S := St [5]) (fun I1 s H => f8.l1 Q a_0 b_1 I1 s.1 H) ((.int .i64 0), ()) H)
theorem f8.enter {Q : Post} {a_0 : Value} {b_1 : Value} {H : Heap} (h : f8.w Q a_0 b_1 H) : Runs Try.prog 8 #[a_0, b_1] H Q :=
  fn_enter (ann := [(4, [5])]) (by kernel_rfl) Try.func8 rfl (by kernel_rfl) h (by kernel_rfl)


theorem eqF33 {H0 : Heap} {Q : Post} {a b : Frac} (hQ : ∀ H', H0.Le H' → Q (.bool (decide (a = b))) H') : Runs Try.prog 33 #[.agg (frC a).toArray, .agg (frC b).toArray] H0 Q := by
  refine f33.enter ?_
  unfold f33.w
  refine Wl.box (Loc.start H0) fun H b1 h => Wl.box h fun H b2 h => Wi.fieldAddr0 (Wl.get h rfl (Wi.fieldAddr0 (Wl.get h rfl (Wi.neqC (fun hne => Wi.tru ?_) fun e1 => Wi.fls ?_))))
  · have := hQ _ h.le
    rw [decide_eq_false (fun e => hne (by rw [e]))] at this
    exact this
  · refine Wi.fieldAddr0 (Wl.get h rfl (Wi.fieldAddr0 (Wl.get h rfl (Wi.neqC (fun hne => Wi.tru ?_) fun e2 => Wi.fls ?_))))
    · have := hQ _ h.le
      rw [decide_eq_false (fun e => hne (by rw [e]))] at this
      exact this
    · have := hQ _ h.le
      rw [decide_eq_true (Prod.ext e1 e2)] at this
      exact this

theorem eq8 : EqC Try.prog 8 RFS := by
  intro H b1 b2 u1 u2 x y Q h1 h2 ht hf
  have r1 : Has RFS H [u1] x := ⟨_, h1⟩
  have r2 : Has RFS H [u2] y := ⟨_, h2⟩
  have hs := r1.small
  refine f8.enter (Wl.lenH r1 (Wl.lenH r2 (Wi.neqC (fun hne => Wi.tru (hf (fun e => hne (by rw [e])) _ (.refl _))) fun hl => Wi.fls ?_)))
  have hl : x.length = y.length := by omega
  refine W.all_rule x.length (fun i => decide (x.getD i (0, 0) = y.getD i (0, 0))) (fun i H1 J hi _ l hJ => ?_) fun H1 J hall l => ?_
  · have hiy : i < y.length := by omega
    have e1 : x.getD i (0, 0) = x[i] := by simp [List.getD_eq_getElem?_getD, List.getElem?_eq_getElem hi]
    have e2 : y.getD i (0, 0) = y[i] := by simp [List.getD_eq_getElem?_getD, List.getElem?_eq_getElem hiy]
    refine Wl.lenH (r1.le l) (Wi.lssC (fun _ => Wi.tru ?_) fun h => by omega)
    refine Wl.atFrH (r1.le l) hi fun _ _ => Wl.atFrH (r2.le l) hiy fun _ _ => Wi.callQ (eqF33 fun H2 l2 => ⟨l2, ?_⟩)
    by_cases e : x[i] = y[i]
    · rw [decide_eq_true e]
      exact Wi.not (Wi.fls (Wi.add (by unfold I64; omega) (hJ (by rw [e1, e2]; exact decide_eq_true e) H2 l2)))
    · rw [decide_eq_false e]
      refine Wi.not (Wi.tru (hf (fun g => e ?_) _ (l.trans l2)))
      subst g
      rfl
  · refine Wl.lenH (r1.le l) (Wi.lssC (fun h => by omega) fun _ => Wi.fls (ht ?_ _ l))
    exact (eqFracS_ok hl).1 hall




def fillTo (x : List Frac) (i : Nat) : List Frac := (List.range x.length).map fun j => if j < i then x.getD j (0, 0) else (0, 0)

end Go.Proofs.Ytbcfknboheghkaa
