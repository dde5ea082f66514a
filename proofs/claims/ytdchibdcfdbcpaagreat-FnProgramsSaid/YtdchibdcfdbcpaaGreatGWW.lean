/- Lists of numbers compared. No condition. -/
import Derived.Test.YtdchibdcfdbcpaaGreatGAA
import Derived.Test.YtdchibdcfdbcpaaGreatZabG4
import Derived.Test.YtdchibdcfdbcpaaGreatZabG5
namespace Go.Proofs.YtdchibdcfdbcpaaGreat
open Go.Ab

/- loop.example/g01343/laws.likeInts -/
def f58.l1 (Q : Post) (a_0 : Value) (b_1 : Value) (I1 : St [5] → Heap → Prop) (i_5 : Value) (H : Heap) : Prop :=
  W.len a_0 H fun v4 H =>
  W.bin .lss i_5 v4 H fun v5 H =>
  W.cond v5 H
  (fun H => W.indexAddr 1 a_0 i_5 H fun v6 H =>
   W.get v6 H fun v7 H =>
   W.indexAddr 1 b_1 i_5 H fun v8 H =>
   W.get v8 H fun v9 H =>
   W.bin .neq v7 v9 H fun v10 H =>
   W.cond v10 H
   (fun H => Q (.bool false) H)
   (fun H => W.bin .add i_5 (.int .i64 1) H fun v11 H =>
    I1 (v11, ()) H))
  (fun H => Q (.bool true) H)
def f58.w (Q : Post) (a_0 : Value) (b_1 : Value) (H : Heap) : Prop :=
  W.len a_0 H fun v1 H =>
  W.len b_1 H fun v2 H =>
  W.bin .neq v1 v2 H fun v3 H =>
  W.cond v3 H
  (fun H => Q (.bool false) H)
  (fun H => W.loop (S := St [5]) (fun I1 s H => f58.l1 Q a_0 b_1 I1 s.1 H) ((.int .i64 0), ()) H)
theorem f58.enter {Q : Post} {a_0 : Value} {b_1 : Value} {H : Heap} (h : f58.w Q a_0 b_1 H) : Runs Tryz.prog 58 #[a_0, b_1] H Q :=
  fn_enter (ann := [(4, [5])]) (by kernel_rfl) Tryz.func58 rfl (by kernel_rfl) h (by kernel_rfl)


theorem fn58 {H0 : Heap} {Q : Post} {va vb : Value} {a b : List Int} (ha : Has RS H0 [va] a) (hb : Has RS H0 [vb] b) (hQ : Q (.bool (decide (a = b))) H0) : Runs Tryz.prog 58 #[va, vb] H0 Q := by
  have hsa := ha.small
  refine f58.enter (Wl.lenH ha (Wl.lenH hb (Wi.neqC (fun hne => Wi.tru ?_) fun he => Wi.fls ?_)))
  · rw [decide_eq_false (fun e => hne (by rw [e]))] at hQ
    exact hQ
  have hl : a.length = b.length := by omega
  refine W.for_rule a.length (fun i st H => H = H0 ∧ st = (.int .i64 (i : Nat), ()) ∧ ∀ j (hj : j < a.length), j < i → a[j] = b[j]) ⟨rfl, rfl, fun j _ hj => by omega⟩ ?_
  rintro i st H J hi ⟨rfl, rfl, hok⟩ hJ
  refine Wl.lenH ha (Wi.lssC (fun hlt => Wi.tru ?_) fun hge => Wi.fls ?_)
  · have hia : i < a.length := by omega
    refine Wl.atIntH ha hia fun _ => Wl.atIntH hb (i := i) (by omega) fun _ => Wi.neqC (fun hne => Wi.tru ?_) fun he => Wi.fls ?_
    · rw [decide_eq_false (fun e => hne (by subst e; rfl))] at hQ
      exact hQ
    · refine Wi.add (by unfold I64; omega) (hJ _ _ hia ⟨rfl, rfl, fun j hj hji => ?_⟩)
      by_cases e : j = i
      · subst e; exact he
      · exact hok j hj (by omega)
  · have : a = b := List.ext_getElem hl fun j h1 _ => hok j h1 (by omega)
    rw [decide_eq_true this] at hQ
    exact hQ

end Go.Proofs.YtdchibdcfdbcpaaGreat
/-! Lists of fractions joined; compared. No condition. -/
namespace Go.Proofs.YtdchibdcfdbcpaaGreat
open Go.Ab

/- slices.Grow[[]loop.example/g01343/impl.Frac,loop.example/g01343/impl.Frac] -/
def f129.j1 (Q : Post) (s_0' : Value) (H : Heap) : Prop :=
  Q s_0' H
def f129.w (Q : Post) (s_0 : Value) (n_1 : Value) (H : Heap) : Prop :=
  W.bin .lss n_1 (.int .i64 0) H fun v1 H =>
  W.cond v1 H
  (fun H => W.no H)
  (fun H => W.cap s_0 H fun v2 H =>
   W.len s_0 H fun v3 H =>
   W.bin .sub v2 v3 H fun v4 H =>
   W.bin .sub n_1 v4 H fun v5 H =>
   W.bin .gtr v5 (.int .i64 0) H fun v6 H =>
   W.cond v6 H
   (fun H => W.cap s_0 H fun v7 H =>
    W.slice 2 s_0 none (some v7) H fun v8 H =>
    W.appendZ [(.int .i64 0), (.int .i64 0)] 34 v8 v5 H fun v9 H =>
    W.len s_0 H fun v10 H =>
    W.slice 2 v9 none (some v10) H fun v11 H =>
    f129.j1 Q v11 H)
   (fun H => f129.j1 Q s_0 H))
theorem f129.enter {Q : Post} {s_0 : Value} {n_1 : Value} {H : Heap} (h : f129.w Q s_0 n_1 H) : Runs Tryz.prog 129 #[s_0, n_1] H Q :=
  fn_enter (ann := []) (by kernel_rfl) Tryz.func129 rfl (by kernel_rfl) h (by kernel_rfl)

/- slices.Concat[[]loop.example/g01343/impl.Frac,loop.example/g01343/impl.Frac] -/
def f99.l2 (Q : Post) (v10 : Value) (slices_0 : Value) (I2 : St [6, 27] → Heap → Prop) (newslice_6 : Value) (x_27 : Value) (H : Heap) : Prop :=
  W.bin .lss x_27 v10 H fun v11 H =>
  W.cond v11 H
  (fun H => W.indexAddr 1 slices_0 x_27 H fun v12 H =>
   W.get v12 H fun v13 H =>
   W.append 2 34 newslice_6 v13 H fun v14 H =>
   W.bin .add x_27 (.int .i64 1) H fun v15 H =>
   I2 (v14, v15, ()) H)
  (fun H => Q newslice_6 H)
def f99.l1 (Q : Post) (v1 : Value) (slices_0 : Value) (I1 : St [3, 11] → Heap → Prop) (size_3 : Value) (x_11 : Value) (H : Heap) : Prop :=
  W.bin .lss x_11 v1 H fun v2 H =>
  W.cond v2 H
  (fun H => W.indexAddr 1 slices_0 x_11 H fun v3 H =>
   W.get v3 H fun v4 H =>
   W.len v4 H fun v5 H =>
   W.bin .add size_3 v5 H fun v6 H =>
   W.bin .lss v6 (.int .i64 0) H fun v7 H =>
   W.cond v7 H
   (fun H => W.no H)
   (fun H => W.bin .add x_11 (.int .i64 1) H fun v8 H =>
    I1 (v6, v8, ()) H))
  (fun H => W.call Tryz.prog (.func (.func 129) #[] #[]) #[(.slice none 0 0), size_3] H fun v9 H =>
   W.len slices_0 H fun v10 H =>
   W.loop (S := St [6, 27]) (fun I2 s H => f99.l2 Q v10 slices_0 I2 s.1 s.2.1 H) (v9, (.int .i64 0), ()) H)
def f99.w (Q : Post) (slices_0 : Value) (H : Heap) : Prop :=
  W.len slices_0 H fun v1 H =>
  W.loop (S := St [3, 11]) (fun I1 s H => f99.l1 Q v1 slices_0 I1 s.1 s.2.1 H) ((.int .i64 0), (.int .i64 0), ()) H
theorem f99.enter {Q : Post} {slices_0 : Value} {H : Heap} (h : f99.w Q slices_0 H) : Runs Tryz.prog 99 #[slices_0] H Q :=
  fn_enter (ann := [(3, [3, 11]), (11, [6, 27])]) (by kernel_rfl) Tryz.func99 rfl (by kernel_rfl) h (by kernel_rfl)


theorem growF129 : GrowF Tryz.prog 129 [.int .i64 0, .int .i64 0] 2 34 := fun _ _ _ _ h => f129.enter h
theorem concat99 : ConcatF Tryz.prog 99 RFrac 34 := fun _ _ _ _ h hl hQ =>
  f99.enter (concat_ok (r := RFrac) (n1 := 3) (n2 := 11) (n3 := 6) (n4 := 27) growF129 rfl rfl h hl hQ)


theorem Wi.nePair {a c : Frac} {H : Heap} {k : Post} (ha : I64 a.1 ∧ I64 a.2) (hc : I64 c.1 ∧ I64 c.2) (h : k (.bool !(decide (a = c))) H) : W.eqPair .neq (.agg (frC a).toArray) (.agg (frC c).toArray) H k := by
  show W.eqPair .neq (.agg #[.int .i64 a.1, .int .i64 a.2]) (.agg #[.int .i64 c.1, .int .i64 c.2]) H k
  unfold W.eqPair
  refine ⟨by rw [wf_of_i64 ha.1, wf_of_i64 ha.2, wf_of_i64 hc.1, wf_of_i64 hc.2]; rfl, ?_⟩
  have e : decide (a = c) = (decide (a.1 = c.1) && decide (a.2 = c.2)) := by
    rw [Bool.eq_iff_iff, Bool.and_eq_true, decide_eq_true_iff, decide_eq_true_iff, decide_eq_true_iff]
    exact Prod.ext_iff
  rw [e] at h
  exact h



end Go.Proofs.YtdchibdcfdbcpaaGreat

/-! Rows, lists of fractions, problems, programs compared. No condition. -/
namespace Go.Proofs.YtdchibdcfdbcpaaGreat
open Go.Ab

/- loop.example/g01343/laws.rows5 -/
def f57.l1 (Q : Post) (a_0 : Value) (b_1 : Value) (I1 : St [5] → Heap → Prop) (i_5 : Value) (H : Heap) : Prop :=
  W.len a_0 H fun v4 H =>
  W.bin .lss i_5 v4 H fun v5 H =>
  W.cond v5 H
  (fun H => W.indexAddr 1 a_0 i_5 H fun v6 H =>
   W.get v6 H fun v7 H =>
   W.indexAddr 1 b_1 i_5 H fun v8 H =>
   W.get v8 H fun v9 H =>
   W.callQ Tryz.prog (.func (.func 58) #[] #[]) #[v7, v9] H fun v10 H =>
   W.un .not v10 H fun v11 H =>
   W.cond v11 H
   (fun H => Q (.bool false) H)
   (fun H => W.bin .add i_5 (.int .i64 1) H fun v12 H =>
    I1 (v12, ()) H))
  (fun H => Q (.bool true) H)
def f57.w (Q : Post) (a_0 : Value) (b_1 : Value) (H : Heap) : Prop :=
  W.len a_0 H fun v1 H =>
  W.len b_1 H fun v2 H =>
  W.bin .neq v1 v2 H fun v3 H =>
  W.cond v3 H
  (fun H => Q (.bool false) H)
  (fun H => W.loop (S := St [5]) (fun I1 s H => f57.l1 Q a_0 b_1 I1 s.1 H) ((.int .i64 0), ()) H)
theorem f57.enter {Q : Post} {a_0 : Value} {b_1 : Value} {H : Heap} (h : f57.w Q a_0 b_1 H) : Runs Tryz.prog 57 #[a_0, b_1] H Q :=
  fn_enter (ann := [(4, [5])]) (by kernel_rfl) Tryz.func57 rfl (by kernel_rfl) h (by kernel_rfl)

/- loop.example/g01343/laws.programs5 -/
/- loop.example/g01343/laws.problems5 -/
def f44.w (Q : Post) (a_0 : Value) (b_1 : Value) (H : Heap) : Prop :=
  W.box a_0 62 H fun v1 H =>
  W.box b_1 62 H fun v2 H =>
  W.fieldAddr 0 v1 H fun v3 H =>
  W.get v3 H fun v4 H =>
  W.fieldAddr 0 v2 H fun v5 H =>
  W.get v5 H fun v6 H =>
  W.call Tryz.prog (.func (.func 57) #[] #[]) #[v4, v6] H fun v7 H =>
  W.guarded v7 true (fun H k => W.fieldAddr 1 v1 H k) H fun v8 H =>
  W.guarded v7 true (fun H k => W.get v8 H k) H fun v9 H =>
  W.guarded v7 true (fun H k => W.fieldAddr 1 v2 H k) H fun v10 H =>
  W.guarded v7 true (fun H k => W.get v10 H k) H fun v11 H =>
  W.guarded v7 true (fun H k => W.call Tryz.prog (.func (.func 58) #[] #[]) #[v9, v11] H k) H fun v12 H =>
  W.pick v7 v12 (.bool false) H fun v13 H =>
  Q v13 H
theorem f44.enter {Q : Post} {a_0 : Value} {b_1 : Value} {H : Heap} (h : f44.w Q a_0 b_1 H) : Runs Tryz.prog 44 #[a_0, b_1] H Q :=
  fn_enter (ann := []) (by kernel_rfl) Tryz.func44 rfl (by kernel_rfl) h (by kernel_rfl)

/- loop.example/g01343/laws.fracs5 -/
def f27.l1 (Q : Post) (a_0 : Value) (b_1 : Value) (I1 : St [5] → Heap → Prop) (i_5 : Value) (H : Heap) : Prop :=
  W.len a_0 H fun v4 H =>
  W.bin .lss i_5 v4 H fun v5 H =>
  W.cond v5 H
  (fun H => W.indexAddr 2 a_0 i_5 H fun v6 H =>
   W.getN 2 v6 H fun v7 H =>
   W.indexAddr 2 b_1 i_5 H fun v8 H =>
   W.getN 2 v8 H fun v9 H =>
   W.eqPair .neq v7 v9 H fun v10 H =>
   W.cond v10 H
   (fun H => Q (.bool false) H)
   (fun H => W.bin .add i_5 (.int .i64 1) H fun v11 H =>
    I1 (v11, ()) H))
  (fun H => Q (.bool true) H)
def f27.w (Q : Post) (a_0 : Value) (b_1 : Value) (H : Heap) : Prop :=
  W.len a_0 H fun v1 H =>
  W.len b_1 H fun v2 H =>
  W.bin .neq v1 v2 H fun v3 H =>
  W.cond v3 H
  (fun H => Q (.bool false) H)
  (fun H => W.loop (S := St [5]) (fun I1 s H => f27.l1 Q a_0 b_1 I1 s.1 H) ((.int .i64 0), ()) H)
theorem f27.enter {Q : Post} {a_0 : Value} {b_1 : Value} {H : Heap} (h : f27.w Q a_0 b_1 H) : Runs Tryz.prog 27 #[a_0, b_1] H Q :=
  fn_enter (ann := [(4, [5])]) (by kernel_rfl) Tryz.func27 rfl (by kernel_rfl) h (by kernel_rfl)

/- loop.example/g01343/laws.big -/
def f5.w (Q : Post) (code_0 : Value) (H : Heap) : Prop :=
  W.len code_0 H fun v1 H =>
  W.bin .gtr v1 (.int .i64 4096) H fun v2 H =>
  Q v2 H
theorem f5.enter {Q : Post} {code_0 : Value} {H : Heap} (h : f5.w Q code_0 H) : Runs Tryz.prog 5 #[code_0] H Q :=
  fn_enter (ann := []) (by kernel_rfl) Tryz.func5 rfl (by kernel_rfl) h (by kernel_rfl)


theorem fn57 {H0 : Heap} {Q : Post} {va vb : Value} {a : List (List Int)} (ha : Has RSS H0 [va] a) (hb : Has RSS H0 [vb] a) (hQ : Q (.bool true) H0) : Runs Tryz.prog 57 #[va, vb] H0 Q := by
  have hsa := ha.small
  refine f57.enter (Wl.lenH ha (Wl.lenH hb (Wi.neqC (fun hne => absurd rfl hne) fun he => Wi.fls ?_)))
  refine W.for_rule a.length (fun i st H => H = H0 ∧ st = (.int .i64 (i : Nat), ())) ⟨rfl, rfl⟩ ?_
  rintro i st H J hi ⟨rfl, rfl⟩ hJ
  refine Wl.lenH ha (Wi.lssC (fun hlt => Wi.tru ?_) fun hge => Wi.fls hQ)
  have hia : i < a.length := by omega
  refine Wl.at1H rfl ha hia fun w1 h1 => Wl.at1H rfl hb hia fun w2 h2 => Wi.callQ (fn58 h1 h2 ⟨.refl _, ?_⟩)
  rw [decide_eq_true rfl]
  simp only [gw]
  exact Wi.add (by unfold I64; omega) (hJ _ _ hia ⟨rfl, rfl⟩)

theorem fn27 {H0 : Heap} {Q : Post} {va vb : Value} {a b : List Frac} (ha : Has RFS H0 [va] a) (hb : Has RFS H0 [vb] b) (hQ : Q (.bool (decide (a = b))) H0) : Runs Tryz.prog 27 #[va, vb] H0 Q := by
  have hsa := ha.small
  refine f27.enter (Wl.lenH ha (Wl.lenH hb (Wi.neqC (fun hne => Wi.tru ?_) fun he => Wi.fls ?_)))
  · rw [decide_eq_false (fun e => hne (by rw [e]))] at hQ
    exact hQ
  have hl : a.length = b.length := by omega
  refine W.for_rule a.length (fun i st H => H = H0 ∧ st = (.int .i64 (i : Nat), ()) ∧ ∀ j (hj : j < a.length), j < i → a[j] = b[j]) ⟨rfl, rfl, fun j _ hj => by omega⟩ ?_
  rintro i st H J hi ⟨rfl, rfl, hok⟩ hJ
  refine Wl.lenH ha (Wi.lssC (fun hlt => Wi.tru ?_) fun hge => Wi.fls ?_)
  · have hia : i < a.length := by omega
    refine Wl.atFrH ha hia fun i1 i2 => Wl.atFrH hb (i := i) (by omega) fun i3 i4 => Wi.nePair ⟨i1, i2⟩ ⟨i3, i4⟩ ?_
    by_cases hab : a[i] = b[i]
    · rw [decide_eq_true hab]
      refine Wi.fls (Wi.add (by unfold I64; omega) (hJ _ _ hia ⟨rfl, rfl, fun j hj hji => ?_⟩))
      by_cases e : j = i
      · subst e; exact hab
      · exact hok j hj (by omega)
    · rw [decide_eq_false hab]
      refine Wi.tru ?_
      rw [decide_eq_false (fun e => hab (by subst e; rfl))] at hQ
      exact hQ
  · have : a = b := List.ext_getElem hl fun j h1 _ => hok j h1 (by omega)
    rw [decide_eq_true this] at hQ
    exact hQ

theorem fn44 {H0 : Heap} {Q : Post} {cs ds : List Value} {p : Prob} (ha : Has RProblem H0 cs p) (hb : Has RProblem H0 ds p) (hQ : ∀ H', H0.Le H' → Q (.bool true) H') : Runs Tryz.prog 44 #[.agg cs.toArray, .agg ds.toArray] H0 Q := by
  obtain ⟨u1, u2, rfl, r1, r2⟩ := hasProb ha
  obtain ⟨w1, w2, rfl, s1, s2⟩ := hasProb hb
  refine f44.enter ?_
  unfold f44.w
  have h := (((((Loc.start H0).lent r1).lent r2).lent s1).lent s2)
  refine Wl.box (cs := [u1, u2]) h fun H b1 h => Wl.box (cs := [w1, w2]) h fun H b2 h => ?_
  refine Wi.fieldAddr0 (Wl.get (b := b1) h rfl (Wi.fieldAddr0 (Wl.get (b := b2) h rfl (Wi.call (fn57 (r1.le h.le) (s1.le h.le) ?_)))))
  simp only [gw]
  refine Wi.fieldAddr (Wl.get (b := b1) (o := 1) h rfl (Wi.fieldAddr (Wl.get (b := b2) (o := 1) h rfl (Wi.call (fn58 (r2.le h.le) (s2.le h.le) ?_)))))
  rw [decide_eq_true rfl]
  exact hQ _ h.le

end Go.Proofs.YtdchibdcfdbcpaaGreat
