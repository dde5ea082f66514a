/- Contracts of the program's minors and of the test by them. No condition. -/
import Derived.Test.YtdmgomeogedjgaaGreatDT1
import Derived.Test.YtdmgomeogedjgaaGreatGVV
import Derived.Test.YtdmgomeogedjgaaGreatG1
import Derived.Test.YtdmgomeogedjgaaGreatX0
import Derived.Test.YtdmgomeogedjgaaGreatZabG9
namespace Go.Proofs.YtdmgomeogedjgaaGreat
open Go.Ab

/- loop.example/g01343/impl.part -/
def f121.j1 (Q : Post) (x_15 : Value) (I1 : St [7, 15] → Heap → Prop) (out_7' : Value) (H : Heap) : Prop :=
  W.bin .add x_15 (.int .i64 1) H fun v7 H =>
  I1 (out_7', v7, ()) H
def f121.j2 (Q : Post) (x_26 : Value) (I2 : St [10, 26] → Heap → Prop) (l_10' : Value) (H : Heap) : Prop :=
  W.bin .add x_26 (.int .i64 1) H fun v15 H =>
  I2 (l_10', v15, ()) H
def f121.l2 (Q : Post) (v8 : Value) (v4 : Value) (columns_2 : Value) (out_7 : Value) (x_15 : Value) (I1 : St [7, 15] → Heap → Prop) (I2 : St [10, 26] → Heap → Prop) (l_10 : Value) (x_26 : Value) (H : Heap) : Prop :=
  W.bin .lss x_26 v8 H fun v9 H =>
  W.cond v9 H
  (fun H => W.indexAddr 1 v4 x_26 H fun v10 H =>
   W.get v10 H fun v11 H =>
   W.call Tryz.prog (.func (.func 97) #[] #[]) #[columns_2, x_26] H fun v12 H =>
   W.cond v12 H
   (fun H => W.lit 1 [(.int .i64 0)] 2 [(0, 1, v11)] H fun v13 H =>
    W.append 1 2 l_10 v13 H fun v14 H =>
    f121.j2 Q x_26 I2 v14 H)
   (fun H => f121.j2 Q x_26 I2 l_10 H))
  (fun H => W.lit 1 [(.slice none 0 0)] 29 [(0, 1, l_10)] H fun v16 H =>
   W.append 1 29 out_7 v16 H fun v17 H =>
   f121.j1 Q x_15 I1 v17 H)
def f121.l1 (Q : Post) (v1 : Value) (m_0 : Value) (rows_1 : Value) (columns_2 : Value) (I1 : St [7, 15] → Heap → Prop) (out_7 : Value) (x_15 : Value) (H : Heap) : Prop :=
  W.bin .lss x_15 v1 H fun v2 H =>
  W.cond v2 H
  (fun H => W.indexAddr 1 m_0 x_15 H fun v3 H =>
   W.get v3 H fun v4 H =>
   W.call Tryz.prog (.func (.func 97) #[] #[]) #[rows_1, x_15] H fun v5 H =>
   W.un .not v5 H fun v6 H =>
   W.cond v6 H
   (fun H => f121.j1 Q x_15 I1 out_7 H)
   (fun H => W.len v4 H fun v8 H =>
    W.loop (S := St [10, 26]) (fun I2 s H => f121.l2 Q v8 v4 columns_2 out_7 x_15 I1 I2 s.1 s.2.1 H) ((.slice none 0 0), (.int .i64 0), ()) H))
  (fun H => Q out_7 H)
def f121.w (Q : Post) (m_0 : Value) (rows_1 : Value) (columns_2 : Value) (H : Heap) : Prop :=
  W.len m_0 H fun v1 H =>
  W.loop (S := St [7, 15]) (fun I1 s H => f121.l1 Q v1 m_0 rows_1 columns_2 I1 s.1 s.2.1 H) ((.slice none 0 0), (.int .i64 0), ()) H
theorem f121.enter {Q : Post} {m_0 : Value} {rows_1 : Value} {columns_2 : Value} {H : Heap} (h : f121.w Q m_0 rows_1 columns_2 H) : Runs Tryz.prog 121 #[m_0, rows_1, columns_2] H Q :=
  fn_enter (ann := [(3, [7, 15]), (8, [10, 26])]) (by kernel_rfl) Tryz.func121 rfl (by kernel_rfl) h (by kernel_rfl)

/- loop.example/g01343/impl.minor -/
def f145.w (Q : Post) (m_0 : Value) (s_1 : Value) (H : Heap) : Prop :=
  W.call Tryz.prog (.func (.func 121) #[] #[]) #[m_0, s_1, s_1] H fun v1 H =>
  W.call Tryz.prog (.func (.func 122) #[] #[]) #[v1] H fun v2 H =>
  Q v2 H
theorem f145.enter {Q : Post} {m_0 : Value} {s_1 : Value} {H : Heap} (h : f145.w Q m_0 s_1 H) : Runs Tryz.prog 145 #[m_0, s_1] H Q :=
  fn_enter (ann := []) (by kernel_rfl) Tryz.func145 rfl (by kernel_rfl) h (by kernel_rfl)

/- loop.example/g01343/impl.minors -/
def f115.l1 (Q : Post) (v4 : Value) (m_0 : Value) (v3 : Value) (I1 : St [11] → Heap → Prop) (x_11 : Value) (H : Heap) : Prop :=
  W.bin .lss x_11 v4 H fun v5 H =>
  W.cond v5 H
  (fun H => W.call Tryz.prog (.func (.func 145) #[] #[]) #[m_0, x_11] H fun v6 H =>
   W.indexAddr 1 v3 x_11 H fun v7 H =>
   W.put v7 v6 H fun _ H =>
   W.bin .add x_11 (.int .i64 1) H fun v8 H =>
   I1 (v8, ()) H)
  (fun H => Q v3 H)
def f115.w (Q : Post) (m_0 : Value) (H : Heap) : Prop :=
  W.len m_0 H fun v1 H =>
  W.bin .shl (.int .i64 1) v1 H fun v2 H =>
  W.make [(.int .i64 0)] 2 v2 v2 H fun v3 H =>
  W.len v3 H fun v4 H =>
  W.loop (S := St [11]) (fun I1 s H => f115.l1 Q v4 m_0 v3 I1 s.1 H) ((.int .i64 0), ()) H
theorem f115.enter {Q : Post} {m_0 : Value} {H : Heap} (h : f115.w Q m_0 H) : Runs Tryz.prog 115 #[m_0] H Q :=
  fn_enter (ann := [(3, [11])]) (by kernel_rfl) Tryz.func115 rfl (by kernel_rfl) h (by kernel_rfl)

/- slices.Min[[]int64,int64] -/
def f114.l1 (Q : Post) (x_0 : Value) (I1 : St [3, 4] → Heap → Prop) (m_3 : Value) (i_4 : Value) (H : Heap) : Prop :=
  W.len x_0 H fun v5 H =>
  W.bin .lss i_4 v5 H fun v6 H =>
  W.cond v6 H
  (fun H => W.indexAddr 1 x_0 i_4 H fun v7 H =>
   W.get v7 H fun v8 H =>
   W.min2 m_3 v8 H fun v9 H =>
   W.bin .add i_4 (.int .i64 1) H fun v10 H =>
   I1 (v9, v10, ()) H)
  (fun H => Q m_3 H)
def f114.w (Q : Post) (x_0 : Value) (H : Heap) : Prop :=
  W.len x_0 H fun v1 H =>
  W.bin .lss v1 (.int .i64 1) H fun v2 H =>
  W.cond v2 H
  (fun H => W.no H)
  (fun H => W.indexAddr 1 x_0 (.int .i64 0) H fun v3 H =>
   W.get v3 H fun v4 H =>
   W.loop (S := St [3, 4]) (fun I1 s H => f114.l1 Q x_0 I1 s.1 s.2.1 H) (v4, (.int .i64 1), ()) H)
theorem f114.enter {Q : Post} {x_0 : Value} {H : Heap} (h : f114.w Q x_0 H) : Runs Tryz.prog 114 #[x_0] H Q :=
  fn_enter (ann := [(5, [3, 4])]) (by kernel_rfl) Tryz.func114 rfl (by kernel_rfl) h (by kernel_rfl)

/- loop.example/g01343/impl.isP -/
def f63.w (Q : Post) (m_0 : Value) (least_1 : Value) (H : Heap) : Prop :=
  W.call Tryz.prog (.func (.func 115) #[] #[]) #[m_0] H fun v1 H =>
  W.call Tryz.prog (.func (.func 114) #[] #[]) #[v1] H fun v2 H =>
  W.bin .geq v2 least_1 H fun v3 H =>
  Q v3 H
theorem f63.enter {Q : Post} {m_0 : Value} {least_1 : Value} {H : Heap} (h : f63.w Q m_0 least_1 H) : Runs Tryz.prog 63 #[m_0, least_1] H Q :=
  fn_enter (ann := []) (by kernel_rfl) Tryz.func63 rfl (by kernel_rfl) h (by kernel_rfl)

/- loop.example/g01343/impl.symmetric -/
def f67.w (Q : Post) (m_0 : Value) (H : Heap) : Prop :=
  W.box m_0 28 H fun v1 H =>
  W.get v1 H fun v2 H =>
  W.call Tryz.prog (.func (.func 117) #[] #[]) #[v2, (.func (.func 120) #[] #[v1])] H fun v3 H =>
  Q v3 H
theorem f67.enter {Q : Post} {m_0 : Value} {H : Heap} (h : f67.w Q m_0 H) : Runs Tryz.prog 67 #[m_0] H Q :=
  fn_enter (ann := []) (by kernel_rfl) Tryz.func67 rfl (by kernel_rfl) h (by kernel_rfl)

/- loop.example/g01343/impl.symmetric$1 -/
def f120.w (Q : Post) (i_0 : Value) (k_1 : Value) (x_2 : Value) (H : Heap) : Prop :=
  W.get x_2 H fun v1 H =>
  W.indexAddr 1 v1 i_0 H fun v2 H =>
  W.get v2 H fun v3 H =>
  W.indexAddr 1 v3 k_1 H fun v4 H =>
  W.get v4 H fun v5 H =>
  W.get x_2 H fun v6 H =>
  W.indexAddr 1 v6 k_1 H fun v7 H =>
  W.get v7 H fun v8 H =>
  W.indexAddr 1 v8 i_0 H fun v9 H =>
  W.get v9 H fun v10 H =>
  W.bin .add v5 v10 H fun v11 H =>
  Q v11 H
theorem f120.enter {Q : Post} {i_0 : Value} {k_1 : Value} {x_2 : Value} {H : Heap} (h : f120.w Q i_0 k_1 x_2 H) : Runs Tryz.prog 120 #[i_0, k_1, x_2] H Q :=
  fn_enter (ann := []) (by kernel_rfl) Tryz.func120 rfl (by kernel_rfl) h (by kernel_rfl)


theorem fn114 {H0 : Heap} {Q : Post} {v : Value} {l : List Int} (hr : Has RS H0 [v] l) (h0 : 0 < l.length) (hQ : ∀ r, r ∈ l → (∀ e ∈ l, r ≤ e) → Q (.int .i64 r) H0) : Runs Tryz.prog 114 #[v] H0 Q := by
  have h := (Loc.start H0).lent hr
  refine f114.enter (Wl.len h (Wi.lssC (fun h => by omega) fun _ => Wi.fls (Wl.atInt h (i := 0) h0 fun _ => ?_)))
  unfold f114.l1
  exact min_loop h h0 hQ

theorem fn121 {H0 : Heap} {Q : Post} {v : Value} {m : List (List Int)} {n a b : Nat} (hr : Has RSS H0 [v] m) (hs : Sq n m) (hn : n ≤ 5) (hB : ∀ r c, (mAt m r c).natAbs ≤ 40) (ha : a < 9223372036854775808) (hb : b < 9223372036854775808)
    (hQ : ∀ H' u, FreshG RS 29 H0 u (partRC n m a b) H' → Q u H') : Runs Tryz.prog 121 #[v, .int .i64 (a : Nat), .int .i64 (b : Nat)] H0 Q := by
  have hl := hs.1
  have h := (Loc.start H0).lent hr
  refine f121.enter (Wl.len h ?_)
  refine W.for_rule n (fun i st H => ∃ o, st = (o, .int .i64 (i : Nat), ()) ∧ Ab.Loc H0 [.grow RS 29 o ((idxs i a).map fun i => (idxs n b).map fun k => mAt m i k), .lent RSS [v] m] H) ⟨_, rfl, h.nilG RS 29⟩ ?_
  rintro i st H J hi ⟨o, rfl, h⟩ hJ
  refine Wi.lssC (fun hlt => Wi.tru ?_) fun hge => Wi.fls ?_
  · have hin : i < n := by omega
    have him : i < m.length := by omega
    have hrl := hs.2 _ (List.getElem_mem him)
    have hI : I64 ((i : Int) + 1) := by unfold I64; omega
    refine Wl.atL rfl h him fun w h => Wi.call (fn97 ha (by omega) ?_)
    have il := idxs_len i a
    cases hb2 : a.testBit i with
    | false =>
      simp only [gw]
      unfold f121.j1
      refine Wi.add hI (hJ _ _ hin ⟨o, rfl, ?_⟩)
      rw [idxs_out hb2]
      exact h.tl
    | true =>
      simp only [gw]
      refine Wl.len h ?_
      refine W.for_rule n (fun k st H => ∃ u, st = (u, .int .i64 (k : Nat), ()) ∧ Ab.Loc H0 [.grow Rd.int 2 u ((idxs k b).map fun k => mAt m i k), .lent RS [w] m[i], .grow RS 29 o ((idxs i a).map fun i => (idxs n b).map fun k => mAt m i k), .lent RSS [v] m] H) ⟨_, rfl, h.nilG Rd.int 2⟩ ?_
      rintro k st H J2 hk ⟨u, rfl, h⟩ hJ2
      have hI2 : I64 ((k : Int) + 1) := by unfold I64; omega
      refine Wi.lssC (fun hlt2 => Wi.tru ?_) fun hge2 => Wi.fls ?_
      · have hkn : k < n := by omega
        have hkm : k < m[i].length := by omega
        have e1 : m[i][k] = mAt m i k := (mAt_at him hkm).symm
        refine Wl.atInt h hkm fun hy => Wi.call (fn97 hb (by omega) ?_)
        rw [e1] at hy ⊢
        cases hb3 : b.testBit k with
        | false =>
          simp only [gw]
          unfold f121.j2
          refine Wi.add hI2 (hJ2 _ _ hkn ⟨u, rfl, ?_⟩)
          rw [idxs_out hb3]
          exact h
        | true =>
          simp only [gw]
          have kl := idxs_len k b
          refine Wl.pushP (r := Rd.int) (x := mAt m i k) rfl rfl rfl (fun _ => ⟨rfl, rfl, hy⟩) h (by simp; omega) fun H u' h => ?_
          unfold f121.j2
          refine Wi.add hI2 (hJ2 _ _ hkn ⟨u', rfl, ?_⟩)
          rw [idxs_in hb3, List.map_append]
          exact h
      · have : k = n := by omega
        subst this
        refine Wl.pushG h (by simp; omega) fun H o' h => ?_
        unfold f121.j1
        refine Wi.add hI (hJ _ _ hin ⟨o', rfl, ?_⟩)
        rw [idxs_in hb2, List.map_append]
        exact h.tl
  · have : i = n := by omega
    subst this
    exact hQ _ _ (h.retGG (i := 0) rfl)

theorem fn145 {H0 : Heap} {Q : Post} {v : Value} {m : List (List Int)} {n s : Nat} (hr : Has RSS H0 [v] m) (hs : Sq n m) (hn : n ≤ 5) (hB : ∀ r c, (mAt m r c).natAbs ≤ 40) (hs2 : s < 9223372036854775808)
    (hQ : ∀ H', H0.Le H' → Q (.int .i64 (minorL n m s)) H') : Runs Tryz.prog 145 #[v, .int .i64 (s : Nat)] H0 Q := by
  refine f145.enter (Wi.call (fn121 hr hs hn hB hs2 hs2 fun H u f => ?_))
  have h := ((Loc.start H0).addG f).asData (i := 0) rfl
  exact Wi.call (fn122 (h.rd (cs := [u])) (partRC_sq n m s) (Nat.le_trans (idxs_len n s) hn) (partRC_rows hn hB) fun H' l => hQ _ (h.to l).le)

theorem fn115 {H0 : Heap} {Q : Post} {v : Value} {m : List (List Int)} {n : Nat} (hr : Has RSS H0 [v] m) (hs : Sq n m) (hn : n ≤ 5) (hB : ∀ r c, (mAt m r c).natAbs ≤ 40)
    (hQ : ∀ H' u, Fresh RS H0 [u] (minorsL n m) H' → Q u H') : Runs Tryz.prog 115 #[v] H0 Q := by
  have hl := hs.1
  have h32 : 2 ^ n ≤ 32 := Nat.pow_le_pow_right (n := 2) (j := 5) (by decide) hn
  have h := (Loc.start H0).lent hr
  refine f115.enter (Wl.len h (Wi.shl1 (by omega) ?_))
  rw [hl]
  generalize hN : 2 ^ n = N at *
  refine Wl.make (r := Rd.int) (z := 0) (fun _ => ⟨rfl, rfl, by unfold I64; omega⟩) h (by omega) (by decide) fun H u h => Wl.len h ?_
  have h := h.asData (i := 0) rfl
  rw [List.length_replicate]
  have e0 : List.replicate N (0 : Int) = (List.range N).map fun k => if k < 0 then minorL n m k else 0 := by
    apply List.ext_getElem <;> simp
  rw [e0] at h
  refine W.for_rule N (fun x st H => st = (.int .i64 (x : Nat), ()) ∧ Ab.Loc H0 [.data RS [u] ((List.range N).map fun k => if k < x then minorL n m k else 0), .lent RSS [v] m] H) ⟨rfl, h⟩ ?_
  rintro x st H J hx ⟨rfl, h⟩ hJ
  refine Wi.lssC (fun hlt => Wi.tru ?_) fun hge => Wi.fls ?_
  · have hxn : x < N := by omega
    refine Wi.call (fn145 (h.rd (cs := [v])) hs hn hB (by omega) fun H l => ?_)
    have h := h.to l
    refine Wl.setInt h (by simpa using hxn) (i64A (minorL_abs hn hB x) (by decide)) fun H h => Wi.add (by unfold I64; omega) (hJ _ _ hxn ⟨rfl, ?_⟩)
    rw [range_set (g := fun k => if k < x + 1 then minorL n m k else 0) (by simp) (fun k _ hk => by
      by_cases g : k < x
      · rw [if_pos g, if_pos (by omega)]
      · rw [if_neg g, if_neg (by omega)])] at h
    exact h
  · have : x = N := by omega
    subst this
    have e : minorsL n m = (List.range x).map fun k => if k < x then minorL n m k else 0 := by
      unfold minorsL
      rw [hN]
      exact List.map_congr_left fun k hk => by rw [if_pos (by simpa using hk)]
    refine hQ _ _ ?_
    rw [e]
    exact h.ret (i := 0) rfl

theorem minorsL_len (n : Nat) (m : List (List Int)) : (minorsL n m).length = 2 ^ n := by simp [minorsL]

theorem fn63 {H0 : Heap} {Q : Post} {v : Value} {m : List (List Int)} {n : Nat} {least : Int} (hr : Has RSS H0 [v] m) (hs : Sq n m) (hn : n ≤ 5) (hB : ∀ r c, (mAt m r c).natAbs ≤ 40)
    (hQ : ∀ H', H0.Le H' → Q (.bool ((minorsL n m).all fun x => decide (least ≤ x))) H') : Runs Tryz.prog 63 #[v, .int .i64 least] H0 Q := by
  refine f63.enter (Wi.call (fn115 hr hs hn hB fun H u f => ?_))
  have h := (Loc.start H0).add f
  refine Wi.call (fn114 (h.rd (cs := [u])) (by rw [minorsL_len]; exact Nat.pow_pos (by decide)) fun r hr hle => Wi.geq ?_)
  have e : decide (least ≤ r) = (minorsL n m).all fun x => decide (least ≤ x) := by
    rw [Bool.eq_iff_iff, List.all_eq_true]
    simp only [decide_eq_true_eq]
    exact ⟨fun g x hx => Int.le_trans g (hle x hx), fun g => g r hr⟩
  rw [e]
  exact hQ _ h.le

theorem fn67 {H0 : Heap} {Q : Post} {v : Value} {m : List (List Int)} {n : Nat} (hr : Has RSS H0 [v] m) (hs : Sq n m) (hn : n ≤ 5) (hB : ∀ r c, (mAt m r c).natAbs ≤ 20)
    (hQ : ∀ H' u, Fresh RSS H0 [u] (symL n m) H' → Q u H') : Runs Tryz.prog 67 #[v] H0 Q := by
  have hl := hs.1
  have h := (Loc.start H0).lent hr
  refine f67.enter (Wl.box1 h hr.cell1 fun H b h => Wl.get h rfl ?_)
  have hf : Fun2F (.func (.func 120) #[] #[pt b 0]) H m fun i k => mAt m i k + mAt m k i := fun H' i k K hi hk l hK => by
    have h := h.to l
    have hin : i < n := by omega
    have hri := hs.2 _ (List.getElem_mem hi)
    have hkm : k < m.length := by omega
    have hrk := hs.2 _ (List.getElem_mem hkm)
    have hik : i < m[k].length := by omega
    have b1 := hB i k
    have b2 := hB k i
    have hI : I64 (mAt m i k + mAt m k i) := by unfold I64; omega
    refine Wi.callV (f120.enter (Wl.get h rfl (Wl.at1 rfl h hi fun w hw => Wl.atIntH hw hk fun _ => Wl.get h rfl (Wl.at1 rfl h hkm fun w2 hw2 => Wl.atIntH hw2 hik fun _ => ?_))))
    rw [show m[i][k] = mAt m i k from (mAt_at hi hk).symm, show m[k][i] = mAt m k i from (mAt_at hkm hik).symm]
    exact Wi.add hI (hK _ (.refl _) hI)
  refine Wi.call (fn117 (h.rd (cs := [v])) ⟨by omega, fun r hr => by rw [hs.2 r hr]; omega⟩ hf fun H' u f => ?_)
  have e : mapF (fun i k => mAt m i k + mAt m k i) m = symL n m := by
    have hsq : Sq n (mapF (fun i k => mAt m i k + mAt m k i) m) := by
      refine ⟨by simp [mapF, hl], fun r hr => ?_⟩
      obtain ⟨a, ha, rfl⟩ := List.mem_iff_getElem.1 hr
      have ha' : a < m.length := by simpa [mapF] using ha
      simp only [mapF, List.getElem_mapIdx, List.length_mapIdx]
      exact hs.2 _ (List.getElem_mem ha')
    refine hsq.ext (tabL_sq n _) fun r c hr hc => ?_
    have hr' : r < m.length := by omega
    have hc' : c < m[r].length := by rw [hs.2 _ (List.getElem_mem hr')]; exact hc
    have h1 : r < (mapF (fun i k => mAt m i k + mAt m k i) m).length := by rw [hsq.1]; exact hr
    unfold symL
    rw [tabL_at hr hc, mAt_at h1 (by rw [hsq.2 _ (List.getElem_mem h1)]; exact hc)]
    simp [mapF]
  rw [e] at f
  exact hQ _ _ ((h.add f).ret (i := 0) rfl)

end Go.Proofs.YtdmgomeogedjgaaGreat
