/- Rows, lists of fractions, problems, programs compared. No condition. -/
import Derived.Test.YtgdiebnokgnniaaGreatDoorLKI
import Derived.Test.YtgdiebnokgnniaaGreatDoorGQY
import Derived.Test.YtgdiebnokgnniaaGreatDoorGAB
import Derived.Test.YtgdiebnokgnniaaGreatDoorGPP
namespace Go.Proofs.YtgdiebnokgnniaaGreatDoor
open Go.Ab

/- loop.example/g01343/laws.rows5 -/
def f33.l1 (Q : Post) (a_0 : Value) (b_1 : Value) (I1 : St [5] → Heap → Prop) (i_5 : Value) (H : Heap) : Prop :=
  W.len a_0 H fun v4 H =>
  W.bin .lss i_5 v4 H fun v5 H =>
  W.cond v5 H
  (fun H => W.indexAddr 1 a_0 i_5 H fun v6 H =>
   W.get v6 H fun v7 H =>
   W.indexAddr 1 b_1 i_5 H fun v8 H =>
   W.get v8 H fun v9 H =>
   W.callQ Tryz.prog (.func (.func 56) #[] #[]) #[v7, v9] H fun v10 H =>
   W.un .not v10 H fun v11 H =>
   W.cond v11 H
   (fun H => Q (.bool false) H)
   (fun H => W.bin .add i_5 (.int .i64 1) H fun v12 H =>
    I1 (v12, ()) H))
  (fun H => Q (.bool true) H)
def f33.w (Q : Post) (a_0 : Value) (b_1 : Value) (H : Heap) : Prop :=
  W.len a_0 H fun v1 H =>
  W.len b_1 H fun v2 H =>
  W.bin .neq v1 v2 H fun v3 H =>
  W.cond v3 H
  (fun H => Q (.bool false) H)
  (fun H => W.loop (S := St [5]) (fun I1 s H => f33.l1 Q a_0 b_1 I1 s.1 H) ((.int .i64 0), ()) H)
theorem f33.enter {Q : Post} {a_0 : Value} {b_1 : Value} {H : Heap} (h : f33.w Q a_0 b_1 H) : Runs Tryz.prog 33 #[a_0, b_1] H Q :=
  fn_enter (ann := [(4, [5])]) (by kernel_rfl) Tryz.func33 rfl (by kernel_rfl) h (by kernel_rfl)

/- loop.example/g01343/laws.problems5 -/
def f17.w (Q : Post) (a_0 : Value) (b_1 : Value) (H : Heap) : Prop :=
  W.box a_0 27 H fun v1 H =>
  W.box b_1 27 H fun v2 H =>
  W.fieldAddr 0 v1 H fun v3 H =>
  W.get v3 H fun v4 H =>
  W.fieldAddr 0 v2 H fun v5 H =>
  W.get v5 H fun v6 H =>
  W.call Tryz.prog (.func (.func 33) #[] #[]) #[v4, v6] H fun v7 H =>
  W.guarded v7 true (fun H k => W.fieldAddr 1 v1 H k) H fun v8 H =>
  W.guarded v7 true (fun H k => W.get v8 H k) H fun v9 H =>
  W.guarded v7 true (fun H k => W.fieldAddr 1 v2 H k) H fun v10 H =>
  W.guarded v7 true (fun H k => W.get v10 H k) H fun v11 H =>
  W.guarded v7 true (fun H k => W.call Tryz.prog (.func (.func 56) #[] #[]) #[v9, v11] H k) H fun v12 H =>
  W.pick v7 v12 (.bool false) H fun v13 H =>
  Q v13 H
theorem f17.enter {Q : Post} {a_0 : Value} {b_1 : Value} {H : Heap} (h : f17.w Q a_0 b_1 H) : Runs Tryz.prog 17 #[a_0, b_1] H Q :=
  fn_enter (ann := []) (by kernel_rfl) Tryz.func17 rfl (by kernel_rfl) h (by kernel_rfl)

/- loop.example/g01343/laws.fracs5 -/
def f10.l1 (Q : Post) (a_0 : Value) (b_1 : Value) (I1 : St [5] → Heap → Prop) (i_5 : Value) (H : Heap) : Prop :=
  W.len a_0 H fun v4 H =>
  W.bin .lss i_5 v4 H fun v5 H =>
  W.cond v5 H
  (fun H => W.indexAddr 2 a_0 i_5 H fun v6 H =>
   W.getN 2 v6 H fun v7 H =>
   W.indexAddr 2 b_1 i_5 H fun v8 H =>
   W.getN 2 v8 H fun v9 H =>
   W.eqPair .neq v7 v9 H fun v10 H =>
   W.cond v10 H
   (fun H => Q (.bool false) H)
   (fun H => W.bin .add i_5 (.int .i64 1) H fun v11 H =>
    I1 (v11, ()) H))
  (fun H => Q (.bool true) H)
def f10.w (Q : Post) (a_0 : Value) (b_1 : Value) (H : Heap) : Prop :=
  W.len a_0 H fun v1 H =>
  W.len b_1 H fun v2 H =>
  W.bin .neq v1 v2 H fun v3 H =>
  W.cond v3 H
  (fun H => Q (.bool false) H)
  (fun H => W.loop (S := St [5]) (fun I1 s H => f10.l1 Q a_0 b_1 I1 s.1 H) ((.int .i64 0), ()) H)
theorem f10.enter {Q : Post} {a_0 : Value} {b_1 : Value} {H : Heap} (h : f10.w Q a_0 b_1 H) : Runs Tryz.prog 10 #[a_0, b_1] H Q :=
  fn_enter (ann := [(4, [5])]) (by kernel_rfl) Tryz.func10 rfl (by kernel_rfl) h (by kernel_rfl)

/- loop.example/g01343/laws.big -/
def f4.w (Q : Post) (code_0 : Value) (H : Heap) : Prop :=
  W.len code_0 H fun v1 H =>
  W.bin .gtr v1 (.int .i64 4096) H fun v2 H =>
  Q v2 H
theorem f4.enter {Q : Post} {code_0 : Value} {H : Heap} (h : f4.w Q code_0 H) : Runs Tryz.prog 4 #[code_0] H Q :=
  fn_enter (ann := []) (by kernel_rfl) Tryz.func4 rfl (by kernel_rfl) h (by kernel_rfl)


theorem fn33 {H0 : Heap} {Q : Post} {va vb : Value} {a : List (List Int)} (ha : Has RSS H0 [va] a) (hb : Has RSS H0 [vb] a) (hQ : Q (.bool true) H0) : Runs Tryz.prog 33 #[va, vb] H0 Q := by
  have hsa := ha.small
  refine f33.enter (Wl.lenH ha (Wl.lenH hb (Wi.neqC (fun hne => absurd rfl hne) fun he => Wi.fls ?_)))
  refine W.for_rule a.length (fun i st H => H = H0 ∧ st = (.int .i64 (i : Nat), ())) ⟨rfl, rfl⟩ ?_
  rintro i st H J hi ⟨rfl, rfl⟩ hJ
  refine Wl.lenH ha (Wi.lssC (fun hlt => Wi.tru ?_) fun hge => Wi.fls hQ)
  have hia : i < a.length := by omega
  refine Wl.at1H rfl ha hia fun w1 h1 => Wl.at1H rfl hb hia fun w2 h2 => Wi.callQ (fn56 h1 h2 ⟨.refl _, ?_⟩)
  rw [decide_eq_true rfl]
  simp only [gw]
  exact Wi.add (by unfold I64; omega) (hJ _ _ hia ⟨rfl, rfl⟩)

theorem fn10 {H0 : Heap} {Q : Post} {va vb : Value} {a b : List Frac} (ha : Has RFS H0 [va] a) (hb : Has RFS H0 [vb] b) (hQ : Q (.bool (decide (a = b))) H0) : Runs Tryz.prog 10 #[va, vb] H0 Q := by
  have hsa := ha.small
  refine f10.enter (Wl.lenH ha (Wl.lenH hb (Wi.neqC (fun hne => Wi.tru ?_) fun he => Wi.fls ?_)))
  · rw [decide_eq_false (fun e => hne (by rw [e]))] at hQ
    exact hQ
  have hl : a.length = b.length := by omega
  refine W.for_rule a.length (fun i st H => H = H0 ∧ st = (.int .i64 (i : Nat), ()) ∧ ∀ j (hj : j < a.length), j < i → a[j] = b[j]) ⟨rfl, rfl, fun j _ hj => by omega⟩ ?_
  rintro i st H J hi ⟨rfl, rfl, hok⟩ hJ
  refine Wl.lenH ha (Wi.lssC (fun hlt => Wi.tru ?_) fun hge => Wi.fls ?_)
  · have hia : i < a.length := by omega
    refine Wl.atFrH ha hia fun i1 i2 => Wl.atFrH hb (i := i) (by omega) fun i3 i4 => Wi.nePair ⟨i1, i2⟩ ⟨i3, i4⟩ ?_
    by_cases hab : a[i] = b[i]
    · rw [decide_eq_true hab]
      refine Wi.fls (Wi.add (by unfold I64; omega) (hJ _ _ hia ⟨rfl, rfl, fun j hj hji => ?_⟩))
      by_cases e : j = i
      · subst e; exact hab
      · exact hok j hj (by omega)
    · rw [decide_eq_false hab]
      refine Wi.tru ?_
      rw [decide_eq_false (fun e => hab (by subst e; rfl))] at hQ
      exact hQ
  · have : a = b := List.ext_getElem hl fun j h1 _ => hok j h1 (by omega)
    rw [decide_eq_true this] at hQ
    exact hQ

theorem fn17 {H0 : Heap} {Q : Post} {cs ds : List Value} {p : Prob} (ha : Has RProblem H0 cs p) (hb : Has RProblem H0 ds p) (hQ : ∀ H', H0.Le H' → Q (.bool true) H') : Runs Tryz.prog 17 #[.agg cs.toArray, .agg ds.toArray] H0 Q := by
  obtain ⟨u1, u2, rfl, r1, r2⟩ := hasProb ha
  obtain ⟨w1, w2, rfl, s1, s2⟩ := hasProb hb
  refine f17.enter ?_
  unfold f17.w
  have h := (((((Loc.start H0).lent r1).lent r2).lent s1).lent s2)
  refine Wl.box (cs := [u1, u2]) h fun H b1 h => Wl.box (cs := [w1, w2]) h fun H b2 h => ?_
  refine Wi.fieldAddr0 (Wl.get (b := b1) h rfl (Wi.fieldAddr0 (Wl.get (b := b2) h rfl (Wi.call (fn33 (r1.le h.le) (s1.le h.le) ?_)))))
  simp only [gw]
  refine Wi.fieldAddr (Wl.get (b := b1) (o := 1) h rfl (Wi.fieldAddr (Wl.get (b := b2) (o := 1) h rfl (Wi.call (fn56 (r2.le h.le) (s2.le h.le) ?_)))))
  rw [decide_eq_true rfl]
  exact hQ _ h.le


end Go.Proofs.YtgdiebnokgnniaaGreatDoor
