/- Contracts of the reference's minors and of the least of them. No condition. -/
import Derived.Test.YtdmgomeogedjgaaGreatGVV
import Derived.Test.YtdmgomeogedjgaaGreatX0
import Derived.Test.YtdmgomeogedjgaaGreatZabG9
namespace Go.Proofs.YtdmgomeogedjgaaGreat
open Go.Ab

/- loop.example/g01343/spec.l01Part -/
def f133.j1 (Q : Post) (i_6 : Value) (I1 : St [5, 6] → Heap → Prop) (out_5' : Value) (H : Heap) : Prop :=
  W.bin .add i_6 (.int .i64 1) H fun v8 H =>
  I1 (out_5', v8, ()) H
def f133.j2 (Q : Post) (k_8 : Value) (I2 : St [7, 8] → Heap → Prop) (row_7' : Value) (H : Heap) : Prop :=
  W.bin .add k_8 (.int .i64 1) H fun v22 H =>
  I2 (row_7', v22, ()) H
def f133.l2 (Q : Post) (m_0 : Value) (s_1 : Value) (i_6 : Value) (out_5 : Value) (I1 : St [5, 6] → Heap → Prop) (I2 : St [7, 8] → Heap → Prop) (row_7 : Value) (k_8 : Value) (H : Heap) : Prop :=
  W.len m_0 H fun v10 H =>
  W.bin .lss k_8 v10 H fun v11 H =>
  W.cond v11 H
  (fun H => W.conv .u64 k_8 H fun v12 H =>
   W.bin .shr s_1 v12 H fun v13 H =>
   W.bin .and v13 (.int .i64 1) H fun v14 H =>
   W.bin .eql v14 (.int .i64 1) H fun v15 H =>
   W.cond v15 H
   (fun H => W.indexAddr 1 m_0 i_6 H fun v16 H =>
    W.get v16 H fun v17 H =>
    W.indexAddr 1 v17 k_8 H fun v18 H =>
    W.get v18 H fun v19 H =>
    W.lit 1 [(.int .i64 0)] 2 [(0, 1, v19)] H fun v20 H =>
    W.append 1 2 row_7 v20 H fun v21 H =>
    f133.j2 Q k_8 I2 v21 H)
   (fun H => f133.j2 Q k_8 I2 row_7 H))
  (fun H => W.lit 1 [(.slice none 0 0)] 29 [(0, 1, row_7)] H fun v23 H =>
   W.append 1 29 out_5 v23 H fun v24 H =>
   f133.j1 Q i_6 I1 v24 H)
def f133.l1 (Q : Post) (m_0 : Value) (s_1 : Value) (I1 : St [5, 6] → Heap → Prop) (out_5 : Value) (i_6 : Value) (H : Heap) : Prop :=
  W.len m_0 H fun v2 H =>
  W.bin .lss i_6 v2 H fun v3 H =>
  W.cond v3 H
  (fun H => W.conv .u64 i_6 H fun v4 H =>
   W.bin .shr s_1 v4 H fun v5 H =>
   W.bin .and v5 (.int .i64 1) H fun v6 H =>
   W.bin .eql v6 (.int .i64 0) H fun v7 H =>
   W.cond v7 H
   (fun H => f133.j1 Q i_6 I1 out_5 H)
   (fun H => W.lit 0 [(.int .i64 0)] 2 [] H fun v9 H =>
    W.loop (S := St [7, 8]) (fun I2 s H => f133.l2 Q m_0 s_1 i_6 out_5 I1 I2 s.1 s.2.1 H) (v9, (.int .i64 0), ()) H))
  (fun H => Q out_5 H)
def f133.w (Q : Post) (m_0 : Value) (s_1 : Value) (H : Heap) : Prop :=
  W.lit 0 [(.slice none 0 0)] 29 [] H fun v1 H =>
  W.loop (S := St [5, 6]) (fun I1 s H => f133.l1 Q m_0 s_1 I1 s.1 s.2.1 H) (v1, (.int .i64 0), ()) H
theorem f133.enter {Q : Post} {m_0 : Value} {s_1 : Value} {H : Heap} (h : f133.w Q m_0 s_1 H) : Runs Tryz.prog 133 #[m_0, s_1] H Q :=
  fn_enter (ann := [(3, [5, 6]), (8, [7, 8])]) (by kernel_rfl) Tryz.func133 rfl (by kernel_rfl) h (by kernel_rfl)

/- loop.example/g01343/spec.l03Minor -/
def f147.w (Q : Post) (m_0 : Value) (s_1 : Value) (H : Heap) : Prop :=
  W.call Tryz.prog (.func (.func 133) #[] #[]) #[m_0, s_1] H fun v1 H =>
  W.call Tryz.prog (.func (.func 127) #[] #[]) #[v1] H fun v2 H =>
  Q v2 H
theorem f147.enter {Q : Post} {m_0 : Value} {s_1 : Value} {H : Heap} (h : f147.w Q m_0 s_1 H) : Runs Tryz.prog 147 #[m_0, s_1] H Q :=
  fn_enter (ann := []) (by kernel_rfl) Tryz.func147 rfl (by kernel_rfl) h (by kernel_rfl)

/- loop.example/g01343/spec.l03Minors -/
def f131.l1 (Q : Post) (m_0 : Value) (I1 : St [3, 4] → Heap → Prop) (out_3 : Value) (s_4 : Value) (H : Heap) : Prop :=
  W.len m_0 H fun v2 H =>
  W.conv .u64 v2 H fun v3 H =>
  W.bin .shl (.int .i64 1) v3 H fun v4 H =>
  W.bin .lss s_4 v4 H fun v5 H =>
  W.cond v5 H
  (fun H => W.call Tryz.prog (.func (.func 147) #[] #[]) #[m_0, s_4] H fun v6 H =>
   W.lit 1 [(.int .i64 0)] 2 [(0, 1, v6)] H fun v7 H =>
   W.append 1 2 out_3 v7 H fun v8 H =>
   W.bin .add s_4 (.int .i64 1) H fun v9 H =>
   I1 (v8, v9, ()) H)
  (fun H => Q out_3 H)
def f131.w (Q : Post) (m_0 : Value) (H : Heap) : Prop :=
  W.lit 0 [(.int .i64 0)] 2 [] H fun v1 H =>
  W.loop (S := St [3, 4]) (fun I1 s H => f131.l1 Q m_0 I1 s.1 s.2.1 H) (v1, (.int .i64 0), ()) H
theorem f131.enter {Q : Post} {m_0 : Value} {H : Heap} (h : f131.w Q m_0 H) : Runs Tryz.prog 131 #[m_0] H Q :=
  fn_enter (ann := [(3, [3, 4])]) (by kernel_rfl) Tryz.func131 rfl (by kernel_rfl) h (by kernel_rfl)

/- loop.example/g01343/spec.l03Least -/
def f82.l1 (Q : Post) (v1 : Value) (I1 : St [4, 5] → Heap → Prop) (out_4 : Value) (i_5 : Value) (H : Heap) : Prop :=
  W.len v1 H fun v4 H =>
  W.bin .lss i_5 v4 H fun v5 H =>
  W.cond v5 H
  (fun H => W.indexAddr 1 v1 i_5 H fun v6 H =>
   W.get v6 H fun v7 H =>
   W.min2 out_4 v7 H fun v8 H =>
   W.bin .add i_5 (.int .i64 1) H fun v9 H =>
   I1 (v8, v9, ()) H)
  (fun H => Q out_4 H)
def f82.w (Q : Post) (m_0 : Value) (H : Heap) : Prop :=
  W.call Tryz.prog (.func (.func 131) #[] #[]) #[m_0] H fun v1 H =>
  W.indexAddr 1 v1 (.int .i64 0) H fun v2 H =>
  W.get v2 H fun v3 H =>
  W.loop (S := St [4, 5]) (fun I1 s H => f82.l1 Q v1 I1 s.1 s.2.1 H) (v3, (.int .i64 1), ()) H
theorem f82.enter {Q : Post} {m_0 : Value} {H : Heap} (h : f82.w Q m_0 H) : Runs Tryz.prog 82 #[m_0] H Q :=
  fn_enter (ann := [(4, [4, 5])]) (by kernel_rfl) Tryz.func82 rfl (by kernel_rfl) h (by kernel_rfl)

/- loop.example/g01343/spec.l03Symmetric -/
def f85.l2 (Q : Post) (m_0 : Value) (i_4 : Value) (out_3 : Value) (I1 : St [3, 4] → Heap → Prop) (I2 : St [5, 6] → Heap → Prop) (row_5 : Value) (k_6 : Value) (H : Heap) : Prop :=
  W.len m_0 H fun v5 H =>
  W.bin .lss k_6 v5 H fun v6 H =>
  W.cond v6 H
  (fun H => W.indexAddr 1 m_0 i_4 H fun v7 H =>
   W.get v7 H fun v8 H =>
   W.indexAddr 1 v8 k_6 H fun v9 H =>
   W.get v9 H fun v10 H =>
   W.indexAddr 1 m_0 k_6 H fun v11 H =>
   W.get v11 H fun v12 H =>
   W.indexAddr 1 v12 i_4 H fun v13 H =>
   W.get v13 H fun v14 H =>
   W.bin .add v10 v14 H fun v15 H =>
   W.lit 1 [(.int .i64 0)] 2 [(0, 1, v15)] H fun v16 H =>
   W.append 1 2 row_5 v16 H fun v17 H =>
   W.bin .add k_6 (.int .i64 1) H fun v18 H =>
   I2 (v17, v18, ()) H)
  (fun H => W.lit 1 [(.slice none 0 0)] 29 [(0, 1, row_5)] H fun v19 H =>
   W.append 1 29 out_3 v19 H fun v20 H =>
   W.bin .add i_4 (.int .i64 1) H fun v21 H =>
   I1 (v20, v21, ()) H)
def f85.l1 (Q : Post) (m_0 : Value) (I1 : St [3, 4] → Heap → Prop) (out_3 : Value) (i_4 : Value) (H : Heap) : Prop :=
  W.len m_0 H fun v2 H =>
  W.bin .lss i_4 v2 H fun v3 H =>
  W.cond v3 H
  (fun H => W.lit 0 [(.int .i64 0)] 2 [] H fun v4 H =>
   W.loop (S := St [5, 6]) (fun I2 s H => f85.l2 Q m_0 i_4 out_3 I1 I2 s.1 s.2.1 H) (v4, (.int .i64 0), ()) H)
  (fun H => Q out_3 H)
def f85.w (Q : Post) (m_0 : Value) (H : Heap) : Prop :=
  W.lit 0 [(.slice none 0 0)] 29 [] H fun v1 H =>
  W.loop (S := St [3, 4]) (fun I1 s H => f85.l1 Q m_0 I1 s.1 s.2.1 H) (v1, (.int .i64 0), ()) H
theorem f85.enter {Q : Post} {m_0 : Value} {H : Heap} (h : f85.w Q m_0 H) : Runs Tryz.prog 85 #[m_0] H Q :=
  fn_enter (ann := [(3, [3, 4]), (7, [5, 6])]) (by kernel_rfl) Tryz.func85 rfl (by kernel_rfl) h (by kernel_rfl)


theorem fn133 {H0 : Heap} {Q : Post} {v : Value} {m : List (List Int)} {n s : Nat} (hr : Has RSS H0 [v] m) (hs : Sq n m) (hn : n ≤ 5) (hB : ∀ r c, (mAt m r c).natAbs ≤ 40) (hs2 : s < 9223372036854775808)
    (hQ : ∀ H' u, FreshG (Rd.gslice Rd.int 2) 29 H0 u (partRC n m s s) H' → Q u H') : Runs Tryz.prog 133 #[v, .int .i64 (s : Nat)] H0 Q := by
  have hl := hs.1
  refine f133.enter ?_
  unfold f133.w
  refine Wl.lit0 (ty := 29) (Rd.gslice Rd.int 2) rfl ((Loc.start H0).lent hr) fun H o h => ?_
  refine W.for_rule n (fun i st H => ∃ o, st = (o, .int .i64 (i : Nat), ()) ∧ Ab.Loc H0 [.grow (Rd.gslice Rd.int 2) 29 o ((idxs i s).map fun i => (idxs n s).map fun k => mAt m i k), .lent RSS [v] m] H) ⟨_, rfl, h⟩ ?_
  rintro i st H J hi ⟨o, rfl, h⟩ hJ
  refine Wl.len h (Wi.lssC (fun hlt => Wi.tru ?_) fun hge => Wi.fls ?_)
  · have hin : i < n := by omega
    have him : i < m.length := by omega
    have hrl := hs.2 _ (List.getElem_mem him)
    have hI : I64 ((i : Int) + 1) := by unfold I64; omega
    have il := idxs_len i s
    refine Wi.convN (by omega) (Wi.shrN hs2 (by omega) (Wi.and1 (Wi.eqlC (fun hz => Wi.tru ?_) fun hnz => Wi.fls ?_)))
    · have hb2 : s.testBit i = false := by
        cases hb : s.testBit i with
        | false => rfl
        | true => have := bit_iff.2 hb; omega
      unfold f133.j1
      refine Wi.add hI (hJ _ _ hin ⟨o, rfl, ?_⟩)
      rw [idxs_out hb2]
      exact h
    · have hb2 : s.testBit i = true := bit_iff.1 (by omega)
      refine Wl.lit0 (ty := 2) Rd.int rfl h fun H u h => ?_
      refine W.for_rule n (fun k st H => ∃ u, st = (u, .int .i64 (k : Nat), ()) ∧ Ab.Loc H0 [.grow Rd.int 2 u ((idxs k s).map fun k => mAt m i k), .grow (Rd.gslice Rd.int 2) 29 o ((idxs i s).map fun i => (idxs n s).map fun k => mAt m i k), .lent RSS [v] m] H) ⟨_, rfl, h⟩ ?_
      rintro k st H J2 hk ⟨u, rfl, h⟩ hJ2
      have hI2 : I64 ((k : Int) + 1) := by unfold I64; omega
      refine Wl.len h (Wi.lssC (fun hlt2 => Wi.tru ?_) fun hge2 => Wi.fls ?_)
      · have hkn : k < n := by omega
        have hkm : k < m[i].length := by omega
        have kl := idxs_len k s
        have e1 : m[i][k] = mAt m i k := (mAt_at him hkm).symm
        refine Wi.convN (by omega) (Wi.shrN hs2 (by omega) (Wi.and1 (Wi.eqlC (fun ho => Wi.tru ?_) fun hno => Wi.fls ?_)))
        · have hb3 := bit_iff.1 ho
          refine Wl.at1 rfl h him fun w hw => Wl.atIntH hw hkm fun hy => ?_
          rw [e1] at hy ⊢
          refine Wl.pushP (r := Rd.int) (x := mAt m i k) rfl rfl rfl (fun _ => ⟨rfl, rfl, hy⟩) h (by simp; omega) fun H u' h => ?_
          unfold f133.j2
          refine Wi.add hI2 (hJ2 _ _ hkn ⟨u', rfl, ?_⟩)
          rw [idxs_in hb3, List.map_append]
          exact h
        · have hb3 : s.testBit k = false := by
            cases hb : s.testBit k with
            | false => rfl
            | true => exact absurd (bit_iff.2 hb) hno
          unfold f133.j2
          refine Wi.add hI2 (hJ2 _ _ hkn ⟨u, rfl, ?_⟩)
          rw [idxs_out hb3]
          exact h
      · have : k = n := by omega
        subst this
        refine Wl.pushGG h (by simp; omega) fun H o' h => ?_
        unfold f133.j1
        refine Wi.add hI (hJ _ _ hin ⟨o', rfl, ?_⟩)
        rw [idxs_in hb2, List.map_append]
        exact h
  · have : i = n := by omega
    subst this
    exact hQ _ _ (h.retGG (i := 0) rfl)

theorem fn147 {H0 : Heap} {Q : Post} {v : Value} {m : List (List Int)} {n s : Nat} (hr : Has RSS H0 [v] m) (hs : Sq n m) (hn : n ≤ 5) (hB : ∀ r c, (mAt m r c).natAbs ≤ 40) (hs2 : s < 9223372036854775808)
    (hQ : ∀ H', H0.Le H' → Q (.int .i64 (minorL n m s)) H') : Runs Tryz.prog 147 #[v, .int .i64 (s : Nat)] H0 Q := by
  refine f147.enter (Wi.call (fn133 hr hs hn hB hs2 fun H u f => ?_))
  have h := ((Loc.start H0).addG f).asData (i := 0) rfl
  exact Wi.call (fn127 (h.rd (cs := [u])) (partRC_sq n m s) (Nat.le_trans (idxs_len n s) hn) (partRC_rows hn hB) fun H' l => hQ _ (h.to l).le)

theorem fn131 {H0 : Heap} {Q : Post} {v : Value} {m : List (List Int)} {n : Nat} (hr : Has RSS H0 [v] m) (hs : Sq n m) (hn : n ≤ 5) (hB : ∀ r c, (mAt m r c).natAbs ≤ 40)
    (hQ : ∀ H' u, Fresh RS H0 [u] (minorsL n m) H' → Q u H') : Runs Tryz.prog 131 #[v] H0 Q := by
  have hl := hs.1
  have h32 : 2 ^ n ≤ 32 := Nat.pow_le_pow_right (n := 2) (j := 5) (by decide) hn
  refine f131.enter ?_
  unfold f131.w
  refine Wl.lit0 (ty := 2) Rd.int rfl ((Loc.start H0).lent hr) fun H u h => ?_
  refine W.for_rule (2 ^ n) (fun x st H => ∃ u, st = (u, .int .i64 (x : Nat), ()) ∧ Ab.Loc H0 [.grow Rd.int 2 u ((List.range x).map (minorL n m)), .lent RSS [v] m] H) ⟨_, rfl, h⟩ ?_
  rintro x st H J hx ⟨u, rfl, h⟩ hJ
  refine Wl.len h (Wi.convN (by omega) (Wi.shl1 (by omega) ?_))
  rw [hl]
  refine Wi.lssC (fun hlt => Wi.tru ?_) fun hge => Wi.fls ?_
  · have hxn : x < 2 ^ n := Int.ofNat_lt.1 hlt
    refine Wi.call (fn147 (h.rd (cs := [v])) hs hn hB (by omega) fun H l => ?_)
    have h := h.to l
    refine Wl.pushP (r := Rd.int) (x := minorL n m x) rfl rfl rfl (fun _ => ⟨rfl, rfl, i64A (minorL_abs hn hB x) (by decide)⟩) h (by simp; omega) fun H u' h => Wi.add (i64N (q := x + 1) (m := 32) (by omega) (by decide)) (hJ _ _ hxn ⟨u', rfl, ?_⟩)
    have h2 : Ab.Loc H0 [.grow Rd.int 2 u' ((List.range x).map (minorL n m) ++ [minorL n m x]), .lent RSS [v] m] H := h
    rw [range_push rfl] at h2
    exact h2
  · have hge' : ¬ x < 2 ^ n := fun g => hge (Int.ofNat_lt.2 g)
    have : x = 2 ^ n := by omega
    subst this
    exact hQ _ _ ((h.asData (i := 0) rfl).ret (i := 0) rfl)

theorem fn82 {H0 : Heap} {Q : Post} {v : Value} {m : List (List Int)} {n : Nat} (hr : Has RSS H0 [v] m) (hs : Sq n m) (hn : n ≤ 5) (hB : ∀ r c, (mAt m r c).natAbs ≤ 40)
    (hQ : ∀ H' r, H0.Le H' → r ∈ minorsL n m → (∀ e ∈ minorsL n m, r ≤ e) → Q (.int .i64 r) H') : Runs Tryz.prog 82 #[v] H0 Q := by
  have h0 : 0 < (minorsL n m).length := by simp [minorsL]; exact Nat.pow_pos (by decide)
  refine f82.enter (Wi.call (fn131 hr hs hn hB fun H u f => ?_))
  have h := (Loc.start H0).add f
  refine Wl.atInt h (i := 0) h0 fun _ => ?_
  unfold f82.l1
  exact min_loop h h0 fun r h1 h2 => hQ _ r h.le h1 h2

theorem fn85 {H0 : Heap} {Q : Post} {v : Value} {m : List (List Int)} {n : Nat} (hr : Has RSS H0 [v] m) (hs : Sq n m) (hn : n ≤ 5) (hB : ∀ r c, (mAt m r c).natAbs ≤ 20)
    (hQ : ∀ H' u, FreshG (Rd.gslice Rd.int 2) 29 H0 u (symL n m) H' → Q u H') : Runs Tryz.prog 85 #[v] H0 Q := by
  have hl := hs.1
  refine f85.enter ?_
  unfold f85.w
  refine Wl.lit0 (ty := 29) (Rd.gslice Rd.int 2) rfl ((Loc.start H0).lent hr) fun H o h => ?_
  refine W.for_rule n (fun i st H => ∃ o, st = (o, .int .i64 (i : Nat), ()) ∧ Ab.Loc H0 [.grow (Rd.gslice Rd.int 2) 29 o ((List.range i).map fun i => (List.range n).map fun k => mAt m i k + mAt m k i), .lent RSS [v] m] H) ⟨_, rfl, h⟩ ?_
  rintro i st H J hi ⟨o, rfl, h⟩ hJ
  refine Wl.len h (Wi.lssC (fun hlt => Wi.tru ?_) fun hge => Wi.fls ?_)
  · have hin : i < n := by omega
    have him : i < m.length := by omega
    have hrl := hs.2 _ (List.getElem_mem him)
    refine Wl.lit0 (ty := 2) Rd.int rfl h fun H u h => ?_
    refine W.for_rule n (fun k st H => ∃ u, st = (u, .int .i64 (k : Nat), ()) ∧ Ab.Loc H0 [.grow Rd.int 2 u ((List.range k).map fun k => mAt m i k + mAt m k i), .grow (Rd.gslice Rd.int 2) 29 o ((List.range i).map fun i => (List.range n).map fun k => mAt m i k + mAt m k i), .lent RSS [v] m] H) ⟨_, rfl, h⟩ ?_
    rintro k st H J2 hk ⟨u, rfl, h⟩ hJ2
    refine Wl.len h (Wi.lssC (fun hlt2 => Wi.tru ?_) fun hge2 => Wi.fls ?_)
    · have hkn : k < n := by omega
      have hkm : k < m[i].length := by omega
      have hkl : k < m.length := by omega
      have hik : i < m[k].length := by rw [hs.2 _ (List.getElem_mem hkl)]; exact hin
      have b1 := hB i k
      have b2 := hB k i
      have hI : I64 (mAt m i k + mAt m k i) := by unfold I64; omega
      refine Wl.at1 rfl h him fun w hw => Wl.atIntH hw hkm fun _ => Wl.at1 rfl h hkl fun w2 hw2 => Wl.atIntH hw2 hik fun _ => ?_
      rw [show m[i][k] = mAt m i k from (mAt_at him hkm).symm, show m[k][i] = mAt m k i from (mAt_at hkl hik).symm]
      refine Wi.add hI (Wl.pushP (r := Rd.int) (x := mAt m i k + mAt m k i) rfl rfl rfl (fun _ => ⟨rfl, rfl, hI⟩) h (by simp; omega) fun H u' h => Wi.add (by unfold I64; omega) (hJ2 _ _ hkn ⟨u', rfl, ?_⟩))
      rw [← range_push (f := fun k => mAt m i k + mAt m k i) rfl]
      exact h
    · have : k = n := by omega
      subst this
      refine Wl.pushGG h (by simp; omega) fun H o' h => Wi.add (by unfold I64; omega) (hJ _ _ hin ⟨o', rfl, ?_⟩)
      rw [← range_push (f := fun i => (List.range k).map fun k => mAt m i k + mAt m k i) rfl]
      exact h
  · have : i = n := by omega
    subst this
    exact hQ _ _ (h.retGG (i := 0) rfl)

end Go.Proofs.YtdmgomeogedjgaaGreat
