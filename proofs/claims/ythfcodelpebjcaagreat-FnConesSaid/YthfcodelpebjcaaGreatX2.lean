/- Contracts of the reference's minors and of the least of them. No condition. -/
import Derived.Test.YthfcodelpebjcaaGreatGVV
import Derived.Test.YthfcodelpebjcaaGreatX0
import Derived.Test.YthfcodelpebjcaaGreatZabG9
namespace Go.Proofs.YthfcodelpebjcaaGreat
open Go.Ab

/- loop.example/g01343/spec.l01Part -/
def f52.j1 (Q : Post) (i_6 : Value) (I1 : St [5, 6] → Heap → Prop) (out_5' : Value) (H : Heap) : Prop :=
  W.bin .add i_6 (.int .i64 1) H fun v8 H =>
  I1 (out_5', v8, ()) H
def f52.j2 (Q : Post) (k_8 : Value) (I2 : St [7, 8] → Heap → Prop) (row_7' : Value) (H : Heap) : Prop :=
  W.bin .add k_8 (.int .i64 1) H fun v22 H =>
  I2 (row_7', v22, ()) H
def f52.l2 (Q : Post) (m_0 : Value) (s_1 : Value) (i_6 : Value) (out_5 : Value) (I1 : St [5, 6] → Heap → Prop) (I2 : St [7, 8] → Heap → Prop) (row_7 : Value) (k_8 : Value) (H : Heap) : Prop :=
  W.len m_0 H fun v10 H =>
  W.bin .lss k_8 v10 H fun v11 H =>
  W.cond v11 H
  (fun H => W.conv .u64 k_8 H fun v12 H =>
   W.bin .shr s_1 v12 H fun v13 H =>
   W.bin .and v13 (.int .i64 1) H fun v14 H =>
   W.bin .eql v14 (.int .i64 1) H fun v15 H =>
   W.cond v15 H
   (fun H => W.indexAddr 1 m_0 i_6 H fun v16 H =>
    W.get v16 H fun v17 H =>
    W.indexAddr 1 v17 k_8 H fun v18 H =>
    W.get v18 H fun v19 H =>
    W.lit 1 [(.int .i64 0)] 2 [(0, 1, v19)] H fun v20 H =>
    W.append 1 2 row_7 v20 H fun v21 H =>
    f52.j2 Q k_8 I2 v21 H)
   (fun H => f52.j2 Q k_8 I2 row_7 H))
  (fun H => W.lit 1 [(.slice none 0 0)] 25 [(0, 1, row_7)] H fun v23 H =>
   W.append 1 25 out_5 v23 H fun v24 H =>
   f52.j1 Q i_6 I1 v24 H)
def f52.l1 (Q : Post) (m_0 : Value) (s_1 : Value) (I1 : St [5, 6] → Heap → Prop) (out_5 : Value) (i_6 : Value) (H : Heap) : Prop :=
  W.len m_0 H fun v2 H =>
  W.bin .lss i_6 v2 H fun v3 H =>
  W.cond v3 H
  (fun H => W.conv .u64 i_6 H fun v4 H =>
   W.bin .shr s_1 v4 H fun v5 H =>
   W.bin .and v5 (.int .i64 1) H fun v6 H =>
   W.bin .eql v6 (.int .i64 0) H fun v7 H =>
   W.cond v7 H
   (fun H => f52.j1 Q i_6 I1 out_5 H)
   (fun H => W.lit 0 [(.int .i64 0)] 2 [] H fun v9 H =>
    W.loop (S := St [7, 8]) (fun I2 s H => f52.l2 Q m_0 s_1 i_6 out_5 I1 I2 s.1 s.2.1 H) (v9, (.int .i64 0), ()) H))
  (fun H => Q out_5 H)
def f52.w (Q : Post) (m_0 : Value) (s_1 : Value) (H : Heap) : Prop :=
  W.lit 0 [(.slice none 0 0)] 25 [] H fun v1 H =>
  W.loop (S := St [5, 6]) (fun I1 s H => f52.l1 Q m_0 s_1 I1 s.1 s.2.1 H) (v1, (.int .i64 0), ()) H
theorem f52.enter {Q : Post} {m_0 : Value} {s_1 : Value} {H : Heap} (h : f52.w Q m_0 s_1 H) : Runs Tryz.prog 52 #[m_0, s_1] H Q :=
  fn_enter (ann := [(3, [5, 6]), (8, [7, 8])]) (by kernel_rfl) Tryz.func52 rfl (by kernel_rfl) h (by kernel_rfl)


theorem fn52 {H0 : Heap} {Q : Post} {v : Value} {m : List (List Int)} {n s : Nat} (hr : Has RSS H0 [v] m) (hs : Sq n m) (hn : n ≤ 5) (hB : ∀ r c, (mAt m r c).natAbs ≤ 40) (hs2 : s < 9223372036854775808)
    (hQ : ∀ H' u, FreshG (Rd.gslice Rd.int 2) 25 H0 u (partRC n m s s) H' → Q u H') : Runs Tryz.prog 52 #[v, .int .i64 (s : Nat)] H0 Q := by
  have hl := hs.1
  refine f52.enter ?_
  unfold f52.w
  refine Wl.lit0 (ty := 25) (Rd.gslice Rd.int 2) rfl ((Loc.start H0).lent hr) fun H o h => ?_
  refine W.for_rule n (fun i st H => ∃ o, st = (o, .int .i64 (i : Nat), ()) ∧ Ab.Loc H0 [.grow (Rd.gslice Rd.int 2) 25 o ((idxs i s).map fun i => (idxs n s).map fun k => mAt m i k), .lent RSS [v] m] H) ⟨_, rfl, h⟩ ?_
  rintro i st H J hi ⟨o, rfl, h⟩ hJ
  refine Wl.len h (Wi.lssC (fun hlt => Wi.tru ?_) fun hge => Wi.fls ?_)
  · have hin : i < n := by omega
    have him : i < m.length := by omega
    have hrl := hs.2 _ (List.getElem_mem him)
    have hI : I64 ((i : Int) + 1) := by unfold I64; omega
    have il := idxs_len i s
    refine Wi.convN (by omega) (Wi.shrN hs2 (by omega) (Wi.and1 (Wi.eqlC (fun hz => Wi.tru ?_) fun hnz => Wi.fls ?_)))
    · have hb2 : s.testBit i = false := by
        cases hb : s.testBit i with
        | false => rfl
        | true => have := bit_iff.2 hb; omega
      unfold f52.j1
      refine Wi.add hI (hJ _ _ hin ⟨o, rfl, ?_⟩)
      rw [idxs_out hb2]
      exact h
    · have hb2 : s.testBit i = true := bit_iff.1 (by omega)
      refine Wl.lit0 (ty := 2) Rd.int rfl h fun H u h => ?_
      refine W.for_rule n (fun k st H => ∃ u, st = (u, .int .i64 (k : Nat), ()) ∧ Ab.Loc H0 [.grow Rd.int 2 u ((idxs k s).map fun k => mAt m i k), .grow (Rd.gslice Rd.int 2) 25 o ((idxs i s).map fun i => (idxs n s).map fun k => mAt m i k), .lent RSS [v] m] H) ⟨_, rfl, h⟩ ?_
      rintro k st H J2 hk ⟨u, rfl, h⟩ hJ2
      have hI2 : I64 ((k : Int) + 1) := by unfold I64; omega
      refine Wl.len h (Wi.lssC (fun hlt2 => Wi.tru ?_) fun hge2 => Wi.fls ?_)
      · have hkn : k < n := by omega
        have hkm : k < m[i].length := by omega
        have kl := idxs_len k s
        have e1 : m[i][k] = mAt m i k := (mAt_at him hkm).symm
        refine Wi.convN (by omega) (Wi.shrN hs2 (by omega) (Wi.and1 (Wi.eqlC (fun ho => Wi.tru ?_) fun hno => Wi.fls ?_)))
        · have hb3 := bit_iff.1 ho
          refine Wl.at1 rfl h him fun w hw => Wl.atIntH hw hkm fun hy => ?_
          rw [e1] at hy ⊢
          refine Wl.pushP (r := Rd.int) (x := mAt m i k) rfl rfl rfl (fun _ => ⟨rfl, rfl, hy⟩) h (by simp; omega) fun H u' h => ?_
          unfold f52.j2
          refine Wi.add hI2 (hJ2 _ _ hkn ⟨u', rfl, ?_⟩)
          rw [idxs_in hb3, List.map_append]
          exact h
        · have hb3 : s.testBit k = false := by
            cases hb : s.testBit k with
            | false => rfl
            | true => exact absurd (bit_iff.2 hb) hno
          unfold f52.j2
          refine Wi.add hI2 (hJ2 _ _ hkn ⟨u, rfl, ?_⟩)
          rw [idxs_out hb3]
          exact h
      · have : k = n := by omega
        subst this
        refine Wl.pushGG h (by simp; omega) fun H o' h => ?_
        unfold f52.j1
        refine Wi.add hI (hJ _ _ hin ⟨o', rfl, ?_⟩)
        rw [idxs_in hb2, List.map_append]
        exact h
  · have : i = n := by omega
    subst this
    exact hQ _ _ (h.retGG (i := 0) rfl)





end Go.Proofs.YthfcodelpebjcaaGreat
