/- Contracts of the program's minors and of the test by them. No condition. -/
import Derived.Test.YtmhbbkidedjefaaDT1
import Derived.Test.YtmhbbkidedjefaaV1
import Derived.Test.YtmhbbkidedjefaaG1
import Derived.Test.YtmhbbkidedjefaaX0
import Derived.Test.YtmhbbkidedjefaaZabPart
namespace Go.Proofs.Ytmhbbkidedjefaa
open Go.Ab

/- loop.example/g01343/impl.part -/
def f100.j1 (Q : Post) (x_15 : Value) (I1 : St [7, 15] → Heap → Prop) (out_7' : Value) (H : Heap) : Prop :=
  W.bin .add x_15 (.int .i64 1) H fun v7 H =>
  I1 (out_7', v7, ()) H
def f100.j2 (Q : Post) (x_26 : Value) (I2 : St [10, 26] → Heap → Prop) (l_10' : Value) (H : Heap) : Prop :=
  W.bin .add x_26 (.int .i64 1) H fun v15 H =>
  I2 (l_10', v15, ()) H
def f100.l2 (Q : Post) (v8 : Value) (v4 : Value) (columns_2 : Value) (out_7 : Value) (x_15 : Value) (I1 : St [7, 15] → Heap → Prop) (I2 : St [10, 26] → Heap → Prop) (l_10 : Value) (x_26 : Value) (H : Heap) : Prop :=
  W.bin .lss x_26 v8 H fun v9 H =>
  W.cond v9 H
  (fun H => W.indexAddr 1 v4 x_26 H fun v10 H =>
   W.get v10 H fun v11 H =>
   W.call Try.prog (.func (.func 67) #[] #[]) #[columns_2, x_26] H fun v12 H =>
   W.cond v12 H
   (fun H => W.lit 1 [(.int .i64 0)] 2 [(0, 1, v11)] H fun v13 H =>
    W.append 1 2 l_10 v13 H fun v14 H =>
    f100.j2 Q x_26 I2 v14 H)
   (fun H => f100.j2 Q x_26 I2 l_10 H))
  (fun H => W.lit 1 [(.slice none 0 0)] 23 [(0, 1, l_10)] H fun v16 H =>
   W.append 1 23 out_7 v16 H fun v17 H =>
   f100.j1 Q x_15 I1 v17 H)
def f100.l1 (Q : Post) (v1 : Value) (m_0 : Value) (rows_1 : Value) (columns_2 : Value) (I1 : St [7, 15] → Heap → Prop) (out_7 : Value) (x_15 : Value) (H : Heap) : Prop :=
  W.bin .lss x_15 v1 H fun v2 H =>
  W.cond v2 H
  (fun H => W.indexAddr 1 m_0 x_15 H fun v3 H =>
   W.get v3 H fun v4 H =>
   W.call Try.prog (.func (.func 67) #[] #[]) #[rows_1, x_15] H fun v5 H =>
   W.un .not v5 H fun v6 H =>
   W.cond v6 H
   (fun H => f100.j1 Q x_15 I1 out_7 H)
   (fun H => W.len v4 H fun v8 H =>
    W.loop (S := St [10, 26]) (fun I2 s H => f100.l2 Q v8 v4 columns_2 out_7 x_15 I1 I2 s.1 s.2.1 H) ((.slice none 0 0), (.int .i64 0), ()) H))
  (fun H => Q out_7 H)
def f100.w (Q : Post) (m_0 : Value) (rows_1 : Value) (columns_2 : Value) (H : Heap) : Prop :=
  W.len m_0 H fun v1 H =>
  W.loop (S := St [7, 15]) (fun I1 s H => f100.l1 Q v1 m_0 rows_1 columns_2 I1 s.1 s.2.1 H) ((.slice none 0 0), (.int .i64 0), ()) H
theorem f100.enter {Q : Post} {m_0 : Value} {rows_1 : Value} {columns_2 : Value} {H : Heap} (h : f100.w Q m_0 rows_1 columns_2 H) : Runs Try.prog 100 #[m_0, rows_1, columns_2] H Q :=
  fn_enter (ann := [(3, [7, 15]), (8, [10, 26])]) (by kernel_rfl) Try.func100 rfl (by kernel_rfl) h (by kernel_rfl)

/- loop.example/g01343/impl.minor -/
def f53.w (Q : Post) (m_0 : Value) (s_1 : Value) (H : Heap) : Prop :=
  W.call Try.prog (.func (.func 100) #[] #[]) #[m_0, s_1, s_1] H fun v1 H =>
  W.call Try.prog (.func (.func 99) #[] #[]) #[v1] H fun v2 H =>
  Q v2 H
theorem f53.enter {Q : Post} {m_0 : Value} {s_1 : Value} {H : Heap} (h : f53.w Q m_0 s_1 H) : Runs Try.prog 53 #[m_0, s_1] H Q :=
  fn_enter (ann := []) (by kernel_rfl) Try.func53 rfl (by kernel_rfl) h (by kernel_rfl)



theorem fn100 {H0 : Heap} {Q : Post} {v : Value} {m : List (List Int)} {n a b : Nat} (hr : Has RSS H0 [v] m) (hs : Sq n m) (hn : n ≤ 5) (hB : ∀ r c, (mAt m r c).natAbs ≤ 40) (ha : a < 9223372036854775808) (hb : b < 9223372036854775808)
    (hQ : ∀ H' u, FreshG RS 23 H0 u (partRC n m a b) H' → Q u H') : Runs Try.prog 100 #[v, .int .i64 (a : Nat), .int .i64 (b : Nat)] H0 Q := by
  have hl := hs.1
  have h := (Loc.start H0).lent hr
  refine f100.enter (Wl.len h ?_)
  refine W.for_rule n (fun i st H => ∃ o, st = (o, .int .i64 (i : Nat), ()) ∧ Ab.Loc H0 [.grow RS 23 o ((idxs i a).map fun i => (idxs n b).map fun k => mAt m i k), .lent RSS [v] m] H) ⟨_, rfl, h.nilG RS 23⟩ ?_
  rintro i st H J hi ⟨o, rfl, h⟩ hJ
  refine Wi.lssC (fun hlt => Wi.tru ?_) fun hge => Wi.fls ?_
  · have hin : i < n := by omega
    have him : i < m.length := by omega
    have hrl := hs.2 _ (List.getElem_mem him)
    have hI : I64 ((i : Int) + 1) := by unfold I64; omega
    refine Wl.atL rfl h him fun w h => Wi.call (fn67 ha (by omega) ?_)
    have il := idxs_len i a
    cases hb2 : a.testBit i with
    | false =>
      simp only [gw]
      unfold f100.j1
      refine Wi.add hI (hJ _ _ hin ⟨o, rfl, ?_⟩)
      rw [idxs_out hb2]
      exact h.tl
    | true =>
      simp only [gw]
      refine Wl.len h ?_
      refine W.for_rule n (fun k st H => ∃ u, st = (u, .int .i64 (k : Nat), ()) ∧ Ab.Loc H0 [.grow Rd.int 2 u ((idxs k b).map fun k => mAt m i k), .lent RS [w] m[i], .grow RS 23 o ((idxs i a).map fun i => (idxs n b).map fun k => mAt m i k), .lent RSS [v] m] H) ⟨_, rfl, h.nilG Rd.int 2⟩ ?_
      rintro k st H J2 hk ⟨u, rfl, h⟩ hJ2
      have hI2 : I64 ((k : Int) + 1) := by unfold I64; omega
      refine Wi.lssC (fun hlt2 => Wi.tru ?_) fun hge2 => Wi.fls ?_
      · have hkn : k < n := by omega
        have hkm : k < m[i].length := by omega
        have e1 : m[i][k] = mAt m i k := (mAt_at him hkm).symm
        refine Wl.atInt h hkm fun hy => Wi.call (fn67 hb (by omega) ?_)
        rw [e1] at hy ⊢
        cases hb3 : b.testBit k with
        | false =>
          simp only [gw]
          unfold f100.j2
          refine Wi.add hI2 (hJ2 _ _ hkn ⟨u, rfl, ?_⟩)
          rw [idxs_out hb3]
          exact h
        | true =>
          simp only [gw]
          have kl := idxs_len k b
          refine Wl.pushP (r := Rd.int) (x := mAt m i k) rfl rfl rfl (fun _ => ⟨rfl, rfl, hy⟩) h (by simp; omega) fun H u' h => ?_
          unfold f100.j2
          refine Wi.add hI2 (hJ2 _ _ hkn ⟨u', rfl, ?_⟩)
          rw [idxs_in hb3, List.map_append]
          exact h
      · have : k = n := by omega
        subst this
        refine Wl.pushG h (by simp; omega) fun H o' h => ?_
        unfold f100.j1
        refine Wi.add hI (hJ _ _ hin ⟨o', rfl, ?_⟩)
        rw [idxs_in hb2, List.map_append]
        exact h.tl
  · have : i = n := by omega
    subst this
    exact hQ _ _ (h.retGG (i := 0) rfl)

theorem fn53 {H0 : Heap} {Q : Post} {v : Value} {m : List (List Int)} {n s : Nat} (hr : Has RSS H0 [v] m) (hs : Sq n m) (hn : n ≤ 5) (hB : ∀ r c, (mAt m r c).natAbs ≤ 40) (hs2 : s < 9223372036854775808)
    (hQ : ∀ H', H0.Le H' → Q (.int .i64 (minorL n m s)) H') : Runs Try.prog 53 #[v, .int .i64 (s : Nat)] H0 Q := by
  refine f53.enter (Wi.call (fn100 hr hs hn hB hs2 hs2 fun H u f => ?_))
  have h := ((Loc.start H0).addG f).asData (i := 0) rfl
  exact Wi.call (fn99 (h.rd (cs := [u])) (partRC_sq n m s) (Nat.le_trans (idxs_len n s) hn) (partRC_rows hn hB) fun H' l => hQ _ (h.to l).le)


theorem minorsL_len (n : Nat) (m : List (List Int)) : (minorsL n m).length = 2 ^ n := by simp [minorsL]



end Go.Proofs.Ytmhbbkidedjefaa
