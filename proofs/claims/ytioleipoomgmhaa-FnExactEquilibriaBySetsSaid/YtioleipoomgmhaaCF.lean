/- Lists of fractions joined; compared. No condition. -/
import Derived.Test.YtioleipoomgmhaaF1
import Derived.Test.YtioleipoomgmhaaZabG5
namespace Go.Proofs.Ytioleipoomgmhaa
open Go.Ab

/- slices.Grow[[]loop.example/g01343/impl.Frac,loop.example/g01343/impl.Frac] -/
def f117.j1 (Q : Post) (s_0' : Value) (H : Heap) : Prop :=
  Q s_0' H
def f117.w (Q : Post) (s_0 : Value) (n_1 : Value) (H : Heap) : Prop :=
  W.bin .lss n_1 (.int .i64 0) H fun v1 H =>
  W.cond v1 H
  (fun H => W.no H)
  (fun H => W.cap s_0 H fun v2 H =>
   W.len s_0 H fun v3 H =>
   W.bin .sub v2 v3 H fun v4 H =>
   W.bin .sub n_1 v4 H fun v5 H =>
   W.bin .gtr v5 (.int .i64 0) H fun v6 H =>
   W.cond v6 H
   (fun H => W.cap s_0 H fun v7 H =>
    W.slice 2 s_0 none (some v7) H fun v8 H =>
    W.appendZ [(.int .i64 0), (.int .i64 0)] 95 v8 v5 H fun v9 H =>
    W.len s_0 H fun v10 H =>
    W.slice 2 v9 none (some v10) H fun v11 H =>
    f117.j1 Q v11 H)
   (fun H => f117.j1 Q s_0 H))
theorem f117.enter {Q : Post} {s_0 : Value} {n_1 : Value} {H : Heap} (h : f117.w Q s_0 n_1 H) : Runs Try.prog 117 #[s_0, n_1] H Q :=
  fn_enter (ann := []) (by kernel_rfl) Try.func117 rfl (by kernel_rfl) h (by kernel_rfl)

/- slices.Concat[[]loop.example/g01343/impl.Frac,loop.example/g01343/impl.Frac] -/
def f98.l2 (Q : Post) (v10 : Value) (slices_0 : Value) (I2 : St [6, 27] → Heap → Prop) (newslice_6 : Value) (x_27 : Value) (H : Heap) : Prop :=
  W.bin .lss x_27 v10 H fun v11 H =>
  W.cond v11 H
  (fun H => W.indexAddr 1 slices_0 x_27 H fun v12 H =>
   W.get v12 H fun v13 H =>
   W.append 2 95 newslice_6 v13 H fun v14 H =>
   W.bin .add x_27 (.int .i64 1) H fun v15 H =>
   I2 (v14, v15, ()) H)
  (fun H => Q newslice_6 H)
def f98.l1 (Q : Post) (v1 : Value) (slices_0 : Value) (I1 : St [3, 11] → Heap → Prop) (size_3 : Value) (x_11 : Value) (H : Heap) : Prop :=
  W.bin .lss x_11 v1 H fun v2 H =>
  W.cond v2 H
  (fun H => W.indexAddr 1 slices_0 x_11 H fun v3 H =>
   W.get v3 H fun v4 H =>
   W.len v4 H fun v5 H =>
   W.bin .add size_3 v5 H fun v6 H =>
   W.bin .lss v6 (.int .i64 0) H fun v7 H =>
   W.cond v7 H
   (fun H => W.no H)
   (fun H => W.bin .add x_11 (.int .i64 1) H fun v8 H =>
    I1 (v6, v8, ()) H))
  (fun H => W.call Try.prog (.func (.func 117) #[] #[]) #[(.slice none 0 0), size_3] H fun v9 H =>
   W.len slices_0 H fun v10 H =>
   W.loop (S := St [6, 27]) (fun I2 s H => f98.l2 Q v10 slices_0 I2 s.1 s.2.1 H) (v9, (.int .i64 0), ()) H)
def f98.w (Q : Post) (slices_0 : Value) (H : Heap) : Prop :=
  W.len slices_0 H fun v1 H =>
  W.loop (S := St [3, 11]) (fun I1 s H => f98.l1 Q v1 slices_0 I1 s.1 s.2.1 H) ((.int .i64 0), (.int .i64 0), ()) H
theorem f98.enter {Q : Post} {slices_0 : Value} {H : Heap} (h : f98.w Q slices_0 H) : Runs Try.prog 98 #[slices_0] H Q :=
  fn_enter (ann := [(3, [3, 11]), (11, [6, 27])]) (by kernel_rfl) Try.func98 rfl (by kernel_rfl) h (by kernel_rfl)

/- slices.Equal[[]loop.example/g01343/impl.Frac,loop.example/g01343/impl.Frac] -/
def f81.l1 (Q : Post) (v4 : Value) (s1_0 : Value) (s2_1 : Value) (I1 : St [13] → Heap → Prop) (x_13 : Value) (H : Heap) : Prop :=
  W.bin .lss x_13 v4 H fun v5 H =>
  W.cond v5 H
  (fun H => W.indexAddr 2 s1_0 x_13 H fun v6 H =>
   W.getN 2 v6 H fun v7 H =>
   W.indexAddr 2 s2_1 x_13 H fun v8 H =>
   W.getN 2 v8 H fun v9 H =>
   W.eqPair .neq v7 v9 H fun v10 H =>
   W.cond v10 H
   (fun H => Q (.bool false) H)
   (fun H => W.bin .add x_13 (.int .i64 1) H fun v11 H =>
    I1 (v11, ()) H))
  (fun H => Q (.bool true) H)
def f81.w (Q : Post) (s1_0 : Value) (s2_1 : Value) (H : Heap) : Prop :=
  W.len s1_0 H fun v1 H =>
  W.len s2_1 H fun v2 H =>
  W.bin .neq v1 v2 H fun v3 H =>
  W.cond v3 H
  (fun H => Q (.bool false) H)
  (fun H => W.len s1_0 H fun v4 H =>
   W.loop (S := St [13]) (fun I1 s H => f81.l1 Q v4 s1_0 s2_1 I1 s.1 H) ((.int .i64 0), ()) H)
theorem f81.enter {Q : Post} {s1_0 : Value} {s2_1 : Value} {H : Heap} (h : f81.w Q s1_0 s2_1 H) : Runs Try.prog 81 #[s1_0, s2_1] H Q :=
  fn_enter (ann := [(4, [13])]) (by kernel_rfl) Try.func81 rfl (by kernel_rfl) h (by kernel_rfl)

/- loop.example/g01343/spec.l07Same -/
def f73.l1 (Q : Post) (a_0 : Value) (b_1 : Value) (I1 : St [5] → Heap → Prop) (i_5 : Value) (H : Heap) : Prop :=
  W.len a_0 H fun v1 H =>
  W.bin .lss i_5 v1 H fun v2 H =>
  W.cond v2 H
  (fun H => W.indexAddr 2 a_0 i_5 H fun v3 H =>
   W.getN 2 v3 H fun v4 H =>
   W.indexAddr 2 b_1 i_5 H fun v5 H =>
   W.getN 2 v5 H fun v6 H =>
   W.eqPair .neq v4 v6 H fun v7 H =>
   W.cond v7 H
   (fun H => Q (.bool false) H)
   (fun H => W.bin .add i_5 (.int .i64 1) H fun v8 H =>
    I1 (v8, ()) H))
  (fun H => W.len a_0 H fun v9 H =>
   W.len b_1 H fun v10 H =>
   W.bin .eql v9 v10 H fun v11 H =>
   Q v11 H)
def f73.w (Q : Post) (a_0 : Value) (b_1 : Value) (H : Heap) : Prop :=
  W.loop (S := St [5]) (fun I1 s H => f73.l1 Q a_0 b_1 I1 s.1 H) ((.int .i64 0), ()) H
theorem f73.enter {Q : Post} {a_0 : Value} {b_1 : Value} {H : Heap} (h : f73.w Q a_0 b_1 H) : Runs Try.prog 73 #[a_0, b_1] H Q :=
  fn_enter (ann := [(2, [5])]) (by kernel_rfl) Try.func73 rfl (by kernel_rfl) h (by kernel_rfl)

/- slices.IndexFunc[[][]loop.example/g01343/impl.Frac,[]loop.example/g01343/impl.Frac] -/
def f105.l1 (Q : Post) (v1 : Value) (s_0 : Value) (f_1 : Value) (I1 : St [8] → Heap → Prop) (x_8 : Value) (H : Heap) : Prop :=
  W.bin .lss x_8 v1 H fun v2 H =>
  W.cond v2 H
  (fun H => W.indexAddr 1 s_0 x_8 H fun v3 H =>
   W.get v3 H fun v4 H =>
   W.call Try.prog f_1 #[v4] H fun v5 H =>
   W.cond v5 H
   (fun H => Q x_8 H)
   (fun H => W.bin .add x_8 (.int .i64 1) H fun v6 H =>
    I1 (v6, ()) H))
  (fun H => Q (.int .i64 (-1)) H)
def f105.w (Q : Post) (s_0 : Value) (f_1 : Value) (H : Heap) : Prop :=
  W.len s_0 H fun v1 H =>
  W.loop (S := St [8]) (fun I1 s H => f105.l1 Q v1 s_0 f_1 I1 s.1 H) ((.int .i64 0), ()) H
theorem f105.enter {Q : Post} {s_0 : Value} {f_1 : Value} {H : Heap} (h : f105.w Q s_0 f_1 H) : Runs Try.prog 105 #[s_0, f_1] H Q :=
  fn_enter (ann := [(2, [8])]) (by kernel_rfl) Try.func105 rfl (by kernel_rfl) h (by kernel_rfl)

/- slices.ContainsFunc[[][]loop.example/g01343/impl.Frac,[]loop.example/g01343/impl.Frac] -/
def f79.w (Q : Post) (s_0 : Value) (f_1 : Value) (H : Heap) : Prop :=
  W.call Try.prog (.func (.func 105) #[] #[]) #[s_0, f_1] H fun v1 H =>
  W.bin .geq v1 (.int .i64 0) H fun v2 H =>
  Q v2 H
theorem f79.enter {Q : Post} {s_0 : Value} {f_1 : Value} {H : Heap} (h : f79.w Q s_0 f_1 H) : Runs Try.prog 79 #[s_0, f_1] H Q :=
  fn_enter (ann := []) (by kernel_rfl) Try.func79 rfl (by kernel_rfl) h (by kernel_rfl)


theorem growF117 : GrowF Try.prog 117 [.int .i64 0, .int .i64 0] 2 95 := fun _ _ _ _ h => f117.enter h
theorem concat98 : ConcatF Try.prog 98 RFrac 95 := fun _ _ _ _ h hl hQ =>
  f98.enter (concat_ok (r := RFrac) (n1 := 3) (n2 := 11) (n3 := 6) (n4 := 27) growF117 rfl rfl h hl hQ)

theorem index105 : IndexF Try.prog 105 RFS := IndexF.of rfl (n := 8) fun _ _ _ _ h => f105.enter h
theorem contains79 : ContainsF Try.prog 79 RFS := ContainsF.of index105 fun _ _ _ _ h => f79.enter h

theorem Wi.nePair {a c : Frac} {H : Heap} {k : Post} (ha : I64 a.1 ∧ I64 a.2) (hc : I64 c.1 ∧ I64 c.2) (h : k (.bool !(decide (a = c))) H) : W.eqPair .neq (.agg (frC a).toArray) (.agg (frC c).toArray) H k := by
  show W.eqPair .neq (.agg #[.int .i64 a.1, .int .i64 a.2]) (.agg #[.int .i64 c.1, .int .i64 c.2]) H k
  unfold W.eqPair
  refine ⟨by rw [wf_of_i64 ha.1, wf_of_i64 ha.2, wf_of_i64 hc.1, wf_of_i64 hc.2]; rfl, ?_⟩
  have e : decide (a = c) = (decide (a.1 = c.1) && decide (a.2 = c.2)) := by
    rw [Bool.eq_iff_iff, Bool.and_eq_true, decide_eq_true_iff, decide_eq_true_iff, decide_eq_true_iff]
    exact Prod.ext_iff
  rw [e] at h
  exact h

theorem fn81 {H0 : Heap} {Q : Post} {a b : Value} {x y : List Frac} (ha : Has RFS H0 [a] x) (hb : Has RFS H0 [b] y) (hQ : Q (.bool (decide (x = y))) H0) : Runs Try.prog 81 #[a, b] H0 Q := by
  have hs := ha.small
  refine f81.enter (Wl.lenH ha (Wl.lenH hb (Wi.neqC (fun hne => Wi.tru ?_) fun he => Wi.fls (Wl.lenH ha ?_))))
  · rw [decide_eq_false (fun e => hne (by rw [e]))] at hQ
    exact hQ
  have hl : x.length = y.length := by omega
  refine W.for_rule x.length (fun i st H => st = (.int .i64 (i : Nat), ()) ∧ H = H0 ∧ ∀ j (h1 : j < x.length) (h2 : j < y.length), j < i → x[j] = y[j]) ⟨rfl, rfl, fun j _ _ hj => by omega⟩ ?_
  rintro i st H J hi ⟨rfl, rfl, hok⟩ hJ
  refine Wi.lssC (fun hlt => Wi.tru ?_) fun hge => Wi.fls ?_
  · have hix : i < x.length := by omega
    have hiy : i < y.length := by omega
    refine Wl.atFrH ha hix fun a1 a2 => Wl.atFrH hb hiy fun b1 b2 => Wi.nePair ⟨a1, a2⟩ ⟨b1, b2⟩ ?_
    by_cases e : x[i] = y[i]
    · rw [decide_eq_true e]
      refine Wi.fls (Wi.add (by unfold I64; omega) (hJ _ _ hix ⟨rfl, rfl, fun j h1 h2 hj => ?_⟩))
      by_cases e2 : j = i
      · subst e2; exact e
      · exact hok j h1 h2 (by omega)
    · rw [decide_eq_false e]
      refine Wi.tru ?_
      rw [decide_eq_false (fun g => e (by subst g; rfl))] at hQ
      exact hQ
  · rw [decide_eq_true (List.ext_getElem hl fun j h1 h2 => hok j h1 h2 (by omega))] at hQ
    exact hQ

theorem fn73 {H0 : Heap} {Q : Post} {a b : Value} {x y : List Frac} (ha : Has RFS H0 [a] x) (hb : Has RFS H0 [b] y) (hl : x.length = y.length) (hQ : Q (.bool (decide (x = y))) H0) : Runs Try.prog 73 #[a, b] H0 Q := by
  have hs := ha.small
  refine f73.enter ?_
  unfold f73.w
  refine W.for_rule x.length (fun i st H => st = (.int .i64 (i : Nat), ()) ∧ H = H0 ∧ ∀ j (h1 : j < x.length) (h2 : j < y.length), j < i → x[j] = y[j]) ⟨rfl, rfl, fun j _ _ hj => by omega⟩ ?_
  rintro i st H J hi ⟨rfl, rfl, hok⟩ hJ
  refine Wl.lenH ha (Wi.lssC (fun hlt => Wi.tru ?_) fun hge => Wi.fls ?_)
  · have hix : i < x.length := by omega
    have hiy : i < y.length := by omega
    refine Wl.atFrH ha hix fun a1 a2 => Wl.atFrH hb hiy fun b1 b2 => Wi.nePair ⟨a1, a2⟩ ⟨b1, b2⟩ ?_
    by_cases e : x[i] = y[i]
    · rw [decide_eq_true e]
      refine Wi.fls (Wi.add (by unfold I64; omega) (hJ _ _ hix ⟨rfl, rfl, fun j h1 h2 hj => ?_⟩))
      by_cases e2 : j = i
      · subst e2; exact e
      · exact hok j h1 h2 (by omega)
    · rw [decide_eq_false e]
      refine Wi.tru ?_
      rw [decide_eq_false (fun g => e (by subst g; rfl))] at hQ
      exact hQ
  · rw [decide_eq_true (List.ext_getElem hl fun j h1 h2 => hok j h1 h2 (by omega))] at hQ
    refine Wl.lenH ha (Wl.lenH hb (Wi.eqlC (fun _ => hQ) fun g => by omega))

end Go.Proofs.Ytioleipoomgmhaa
