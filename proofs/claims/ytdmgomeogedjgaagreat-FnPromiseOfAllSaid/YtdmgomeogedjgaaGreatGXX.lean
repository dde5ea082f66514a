/- The contract of mapped. No condition. -/
import Derived.Test.YtdmgomeogedjgaaGreatGDD
import Derived.Test.YtdmgomeogedjgaaGreatGAB
import Derived.Test.YtdmgomeogedjgaaGreatZabG5
import Derived.Test.YtdmgomeogedjgaaGreatDT1
import Derived.Test.YtdmgomeogedjgaaGreatGVV
import Derived.Test.YtdmgomeogedjgaaGreatZabG9
namespace Go.Proofs.YtdmgomeogedjgaaGreat
open Go.Ab

/- loop.example/g01343/impl.mapped -/
/-- A function value of two places that gives a number. -/
def Fun2F (fv : Value) (H : Heap) (m : List (List Int)) (f : Nat → Nat → Int) : Prop :=
  ∀ (H' : Heap) (i k : Nat) (K : Post) (hi : i < m.length), k < m[i].length → H.Le H' → (∀ H2, H'.Le H2 → I64 (f i k) → K (.int .i64 (f i k)) H2) → W.call Tryz.prog fv #[.int .i64 i, .int .i64 k] H' K

def mapF (f : Nat → Nat → Int) (m : List (List Int)) : List (List Int) := m.mapIdx fun i r => r.mapIdx fun k _ => f i k

end Go.Proofs.YtdmgomeogedjgaaGreat
/-! The least of a list, by a loop. No condition. -/
namespace Go.Proofs.YtdmgomeogedjgaaGreat
open Go.Ab

theorem Wi.min2 {a b : Int} {κ κ' : IntKind} {H : Heap} {k : Post} (h : k (.int κ (if b < a then b else a)) H) : W.min2 (.int κ a) (.int κ' b) H k := h

/-- The least of a list, by a loop. -/
theorem min_loop {H0 H : Heap} {L : List (Atom H0.next)} {v : Value} {l : List Int} {K : Post} (h : Ab.Loc H0 L H) [RdV L [v] RS l] (h0 : 0 < l.length) (hK : ∀ r, r ∈ l → (∀ e ∈ l, r ≤ e) → K (.int .i64 r) H) :
    W.loop (S := Value × Value × Unit) (fun I s H => W.len v H fun v5 H => W.bin .lss s.2.1 v5 H fun v6 H => W.cond v6 H (fun H => W.indexAddr 1 v s.2.1 H fun v7 H => W.get v7 H fun v8 H => W.min2 s.1 v8 H fun v9 H => W.bin .add s.2.1 (.int .i64 1) H fun v10 H => I (v9, v10, ()) H) (fun H => K s.1 H))
      (.int .i64 l[0], .int .i64 1, ()) H := by
  have hsm := (h.rd (cs := [v])).small
  refine W.for_rule (l.length - 1) (fun k s H' => H' = H ∧ ∃ r, s = (.int .i64 r, .int .i64 ((k + 1 : Nat) : Int), ()) ∧ r ∈ l ∧ ∀ j (hj : j < l.length), j ≤ k → r ≤ l[j]) ⟨rfl, l[0], rfl, List.getElem_mem h0, fun j hj hj0 => ?_⟩ ?_
  · have : j = 0 := by omega
    subst this
    exact Int.le_refl _
  rintro k s H' J hk ⟨rfl, r, rfl, hr, hle⟩ hJ
  refine Wl.len h (Wi.lssC (fun hlt => Wi.tru ?_) fun hge => Wi.fls ?_)
  · have hkl : k + 1 < l.length := by omega
    refine Wl.atInt h (i := k + 1) hkl fun _ => Wi.min2 (Wi.add (by unfold I64; omega) (hJ _ _ (by omega) ⟨rfl, _, rfl, ?_, fun j hj hjk => ?_⟩))
    · split
      · exact List.getElem_mem hkl
      · exact hr
    · by_cases e : j = k + 1
      · subst e
        split <;> omega
      · have := hle j hj (by omega)
        split <;> omega
  · refine hK r hr fun e he => ?_
    obtain ⟨j, hj, rfl⟩ := List.mem_iff_getElem.1 he
    exact hle j hj (by omega)

end Go.Proofs.YtdmgomeogedjgaaGreat

/-! Contracts of the program's minors and of the test by them. No condition. -/
namespace Go.Proofs.YtdmgomeogedjgaaGreat
open Go.Ab

/- loop.example/g01343/impl.part -/
def f121.j1 (Q : Post) (x_15 : Value) (I1 : St [7, 15] → Heap → Prop) (out_7' : Value) (H : Heap) : Prop :=
  W.bin .add x_15 (.int .i64 1) H fun v7 H =>
  I1 (out_7', v7, ()) H
def f121.j2 (Q : Post) (x_26 : Value) (I2 : St [10, 26] → Heap → Prop) (l_10' : Value) (H : Heap) : Prop :=
  W.bin .add x_26 (.int .i64 1) H fun v15 H =>
  I2 (l_10', v15, ()) H
def f121.l2 (Q : Post) (v8 : Value) (v4 : Value) (columns_2 : Value) (out_7 : Value) (x_15 : Value) (I1 : St [7, 15] → Heap → Prop) (I2 : St [10, 26] → Heap → Prop) (l_10 : Value) (x_26 : Value) (H : Heap) : Prop :=
  W.bin .lss x_26 v8 H fun v9 H =>
  W.cond v9 H
  (fun H => W.indexAddr 1 v4 x_26 H fun v10 H =>
   W.get v10 H fun v11 H =>
   W.call Tryz.prog (.func (.func 97) #[] #[]) #[columns_2, x_26] H fun v12 H =>
   W.cond v12 H
   (fun H => W.lit 1 [(.int .i64 0)] 2 [(0, 1, v11)] H fun v13 H =>
    W.append 1 2 l_10 v13 H fun v14 H =>
    f121.j2 Q x_26 I2 v14 H)
   (fun H => f121.j2 Q x_26 I2 l_10 H))
  (fun H => W.lit 1 [(.slice none 0 0)] 29 [(0, 1, l_10)] H fun v16 H =>
   W.append 1 29 out_7 v16 H fun v17 H =>
   f121.j1 Q x_15 I1 v17 H)
def f121.l1 (Q : Post) (v1 : Value) (m_0 : Value) (rows_1 : Value) (columns_2 : Value) (I1 : St [7, 15] → Heap → Prop) (out_7 : Value) (x_15 : Value) (H : Heap) : Prop :=
  W.bin .lss x_15 v1 H fun v2 H =>
  W.cond v2 H
  (fun H => W.indexAddr 1 m_0 x_15 H fun v3 H =>
   W.get v3 H fun v4 H =>
   W.call Tryz.prog (.func (.func 97) #[] #[]) #[rows_1, x_15] H fun v5 H =>
   W.un .not v5 H fun v6 H =>
   W.cond v6 H
   (fun H => f121.j1 Q x_15 I1 out_7 H)
   (fun H => W.len v4 H fun v8 H =>
    W.loop (S := St [10, 26]) (fun I2 s H => f121.l2 Q v8 v4 columns_2 out_7 x_15 I1 I2 s.1 s.2.1 H) ((.slice none 0 0), (.int .i64 0), ()) H))
  (fun H => Q out_7 H)
def f121.w (Q : Post) (m_0 : Value) (rows_1 : Value) (columns_2 : Value) (H : Heap) : Prop :=
  W.len m_0 H fun v1 H =>
  W.loop (S := St [7, 15]) (fun I1 s H => f121.l1 Q v1 m_0 rows_1 columns_2 I1 s.1 s.2.1 H) ((.slice none 0 0), (.int .i64 0), ()) H
theorem f121.enter {Q : Post} {m_0 : Value} {rows_1 : Value} {columns_2 : Value} {H : Heap} (h : f121.w Q m_0 rows_1 columns_2 H) : Runs Tryz.prog 121 #[m_0, rows_1, columns_2] H Q :=
  fn_enter (ann := [(3, [7, 15]), (8, [10, 26])]) (by kernel_rfl) Tryz.func121 rfl (by kernel_rfl) h (by kernel_rfl)

/- loop.example/g01343/impl.minor -/
def f145.w (Q : Post) (m_0 : Value) (s_1 : Value) (H : Heap) : Prop :=
  W.call Tryz.prog (.func (.func 121) #[] #[]) #[m_0, s_1, s_1] H fun v1 H =>
  W.call Tryz.prog (.func (.func 122) #[] #[]) #[v1] H fun v2 H =>
  Q v2 H
theorem f145.enter {Q : Post} {m_0 : Value} {s_1 : Value} {H : Heap} (h : f145.w Q m_0 s_1 H) : Runs Tryz.prog 145 #[m_0, s_1] H Q :=
  fn_enter (ann := []) (by kernel_rfl) Tryz.func145 rfl (by kernel_rfl) h (by kernel_rfl)

/- loop.example/g01343/impl.minors -/
def f115.l1 (Q : Post) (v4 : Value) (m_0 : Value) (v3 : Value) (I1 : St [11] → Heap → Prop) (x_11 : Value) (H : Heap) : Prop :=
  W.bin .lss x_11 v4 H fun v5 H =>
  W.cond v5 H
  (fun H => W.call Tryz.prog (.func (.func 145) #[] #[]) #[m_0, x_11] H fun v6 H =>
   W.indexAddr 1 v3 x_11 H fun v7 H =>
   W.put v7 v6 H fun _ H =>
   W.bin .add x_11 (.int .i64 1) H fun v8 H =>
   I1 (v8, ()) H)
  (fun H => Q v3 H)
def f115.w (Q : Post) (m_0 : Value) (H : Heap) : Prop :=
  W.len m_0 H fun v1 H =>
  W.bin .shl (.int .i64 1) v1 H fun v2 H =>
  W.make [(.int .i64 0)] 2 v2 v2 H fun v3 H =>
  W.len v3 H fun v4 H =>
  W.loop (S := St [11]) (fun I1 s H => f115.l1 Q v4 m_0 v3 I1 s.1 H) ((.int .i64 0), ()) H
theorem f115.enter {Q : Post} {m_0 : Value} {H : Heap} (h : f115.w Q m_0 H) : Runs Tryz.prog 115 #[m_0] H Q :=
  fn_enter (ann := [(3, [11])]) (by kernel_rfl) Tryz.func115 rfl (by kernel_rfl) h (by kernel_rfl)

/- slices.Min[[]int64,int64] -/
def f114.l1 (Q : Post) (x_0 : Value) (I1 : St [3, 4] → Heap → Prop) (m_3 : Value) (i_4 : Value) (H : Heap) : Prop :=
  W.len x_0 H fun v5 H =>
  W.bin .lss i_4 v5 H fun v6 H =>
  W.cond v6 H
  (fun H => W.indexAddr 1 x_0 i_4 H fun v7 H =>
   W.get v7 H fun v8 H =>
   W.min2 m_3 v8 H fun v9 H =>
   W.bin .add i_4 (.int .i64 1) H fun v10 H =>
   I1 (v9, v10, ()) H)
  (fun H => Q m_3 H)
def f114.w (Q : Post) (x_0 : Value) (H : Heap) : Prop :=
  W.len x_0 H fun v1 H =>
  W.bin .lss v1 (.int .i64 1) H fun v2 H =>
  W.cond v2 H
  (fun H => W.no H)
  (fun H => W.indexAddr 1 x_0 (.int .i64 0) H fun v3 H =>
   W.get v3 H fun v4 H =>
   W.loop (S := St [3, 4]) (fun I1 s H => f114.l1 Q x_0 I1 s.1 s.2.1 H) (v4, (.int .i64 1), ()) H)
theorem f114.enter {Q : Post} {x_0 : Value} {H : Heap} (h : f114.w Q x_0 H) : Runs Tryz.prog 114 #[x_0] H Q :=
  fn_enter (ann := [(5, [3, 4])]) (by kernel_rfl) Tryz.func114 rfl (by kernel_rfl) h (by kernel_rfl)

/- loop.example/g01343/impl.isP -/
def f63.w (Q : Post) (m_0 : Value) (least_1 : Value) (H : Heap) : Prop :=
  W.call Tryz.prog (.func (.func 115) #[] #[]) #[m_0] H fun v1 H =>
  W.call Tryz.prog (.func (.func 114) #[] #[]) #[v1] H fun v2 H =>
  W.bin .geq v2 least_1 H fun v3 H =>
  Q v3 H
theorem f63.enter {Q : Post} {m_0 : Value} {least_1 : Value} {H : Heap} (h : f63.w Q m_0 least_1 H) : Runs Tryz.prog 63 #[m_0, least_1] H Q :=
  fn_enter (ann := []) (by kernel_rfl) Tryz.func63 rfl (by kernel_rfl) h (by kernel_rfl)

/- loop.example/g01343/impl.symmetric -/
/- loop.example/g01343/impl.symmetric$1 -/
theorem fn114 {H0 : Heap} {Q : Post} {v : Value} {l : List Int} (hr : Has RS H0 [v] l) (h0 : 0 < l.length) (hQ : ∀ r, r ∈ l → (∀ e ∈ l, r ≤ e) → Q (.int .i64 r) H0) : Runs Tryz.prog 114 #[v] H0 Q := by
  have h := (Loc.start H0).lent hr
  refine f114.enter (Wl.len h (Wi.lssC (fun h => by omega) fun _ => Wi.fls (Wl.atInt h (i := 0) h0 fun _ => ?_)))
  unfold f114.l1
  exact min_loop h h0 hQ

theorem fn121 {H0 : Heap} {Q : Post} {v : Value} {m : List (List Int)} {n a b : Nat} (hr : Has RSS H0 [v] m) (hs : Sq n m) (hn : n ≤ 5) (hB : ∀ r c, (mAt m r c).natAbs ≤ 40) (ha : a < 9223372036854775808) (hb : b < 9223372036854775808)
    (hQ : ∀ H' u, FreshG RS 29 H0 u (partRC n m a b) H' → Q u H') : Runs Tryz.prog 121 #[v, .int .i64 (a : Nat), .int .i64 (b : Nat)] H0 Q := by
  have hl := hs.1
  have h := (Loc.start H0).lent hr
  refine f121.enter (Wl.len h ?_)
  refine W.for_rule n (fun i st H => ∃ o, st = (o, .int .i64 (i : Nat), ()) ∧ Ab.Loc H0 [.grow RS 29 o ((idxs i a).map fun i => (idxs n b).map fun k => mAt m i k), .lent RSS [v] m] H) ⟨_, rfl, h.nilG RS 29⟩ ?_
  rintro i st H J hi ⟨o, rfl, h⟩ hJ
  refine Wi.lssC (fun hlt => Wi.tru ?_) fun hge => Wi.fls ?_
  · have hin : i < n := by omega
    have him : i < m.length := by omega
    have hrl := hs.2 _ (List.getElem_mem him)
    have hI : I64 ((i : Int) + 1) := by unfold I64; omega
    refine Wl.atL rfl h him fun w h => Wi.call (fn97 ha (by omega) ?_)
    have il := idxs_len i a
    cases hb2 : a.testBit i with
    | false =>
      simp only [gw]
      unfold f121.j1
      refine Wi.add hI (hJ _ _ hin ⟨o, rfl, ?_⟩)
      rw [idxs_out hb2]
      exact h.tl
    | true =>
      simp only [gw]
      refine Wl.len h ?_
      refine W.for_rule n (fun k st H => ∃ u, st = (u, .int .i64 (k : Nat), ()) ∧ Ab.Loc H0 [.grow Rd.int 2 u ((idxs k b).map fun k => mAt m i k), .lent RS [w] m[i], .grow RS 29 o ((idxs i a).map fun i => (idxs n b).map fun k => mAt m i k), .lent RSS [v] m] H) ⟨_, rfl, h.nilG Rd.int 2⟩ ?_
      rintro k st H J2 hk ⟨u, rfl, h⟩ hJ2
      have hI2 : I64 ((k : Int) + 1) := by unfold I64; omega
      refine Wi.lssC (fun hlt2 => Wi.tru ?_) fun hge2 => Wi.fls ?_
      · have hkn : k < n := by omega
        have hkm : k < m[i].length := by omega
        have e1 : m[i][k] = mAt m i k := (mAt_at him hkm).symm
        refine Wl.atInt h hkm fun hy => Wi.call (fn97 hb (by omega) ?_)
        rw [e1] at hy ⊢
        cases hb3 : b.testBit k with
        | false =>
          simp only [gw]
          unfold f121.j2
          refine Wi.add hI2 (hJ2 _ _ hkn ⟨u, rfl, ?_⟩)
          rw [idxs_out hb3]
          exact h
        | true =>
          simp only [gw]
          have kl := idxs_len k b
          refine Wl.pushP (r := Rd.int) (x := mAt m i k) rfl rfl rfl (fun _ => ⟨rfl, rfl, hy⟩) h (by simp; omega) fun H u' h => ?_
          unfold f121.j2
          refine Wi.add hI2 (hJ2 _ _ hkn ⟨u', rfl, ?_⟩)
          rw [idxs_in hb3, List.map_append]
          exact h
      · have : k = n := by omega
        subst this
        refine Wl.pushG h (by simp; omega) fun H o' h => ?_
        unfold f121.j1
        refine Wi.add hI (hJ _ _ hin ⟨o', rfl, ?_⟩)
        rw [idxs_in hb2, List.map_append]
        exact h.tl
  · have : i = n := by omega
    subst this
    exact hQ _ _ (h.retGG (i := 0) rfl)

theorem fn145 {H0 : Heap} {Q : Post} {v : Value} {m : List (List Int)} {n s : Nat} (hr : Has RSS H0 [v] m) (hs : Sq n m) (hn : n ≤ 5) (hB : ∀ r c, (mAt m r c).natAbs ≤ 40) (hs2 : s < 9223372036854775808)
    (hQ : ∀ H', H0.Le H' → Q (.int .i64 (minorL n m s)) H') : Runs Tryz.prog 145 #[v, .int .i64 (s : Nat)] H0 Q := by
  refine f145.enter (Wi.call (fn121 hr hs hn hB hs2 hs2 fun H u f => ?_))
  have h := ((Loc.start H0).addG f).asData (i := 0) rfl
  exact Wi.call (fn122 (h.rd (cs := [u])) (partRC_sq n m s) (Nat.le_trans (idxs_len n s) hn) (partRC_rows hn hB) fun H' l => hQ _ (h.to l).le)

theorem fn115 {H0 : Heap} {Q : Post} {v : Value} {m : List (List Int)} {n : Nat} (hr : Has RSS H0 [v] m) (hs : Sq n m) (hn : n ≤ 5) (hB : ∀ r c, (mAt m r c).natAbs ≤ 40)
    (hQ : ∀ H' u, Fresh RS H0 [u] (minorsL n m) H' → Q u H') : Runs Tryz.prog 115 #[v] H0 Q := by
  have hl := hs.1
  have h32 : 2 ^ n ≤ 32 := Nat.pow_le_pow_right (n := 2) (j := 5) (by decide) hn
  have h := (Loc.start H0).lent hr
  refine f115.enter (Wl.len h (Wi.shl1 (by omega) ?_))
  rw [hl]
  generalize hN : 2 ^ n = N at *
  refine Wl.make (r := Rd.int) (z := 0) (fun _ => ⟨rfl, rfl, by unfold I64; omega⟩) h (by omega) (by decide) fun H u h => Wl.len h ?_
  have h := h.asData (i := 0) rfl
  rw [List.length_replicate]
  have e0 : List.replicate N (0 : Int) = (List.range N).map fun k => if k < 0 then minorL n m k else 0 := by
    apply List.ext_getElem <;> simp
  rw [e0] at h
  refine W.for_rule N (fun x st H => st = (.int .i64 (x : Nat), ()) ∧ Ab.Loc H0 [.data RS [u] ((List.range N).map fun k => if k < x then minorL n m k else 0), .lent RSS [v] m] H) ⟨rfl, h⟩ ?_
  rintro x st H J hx ⟨rfl, h⟩ hJ
  refine Wi.lssC (fun hlt => Wi.tru ?_) fun hge => Wi.fls ?_
  · have hxn : x < N := by omega
    refine Wi.call (fn145 (h.rd (cs := [v])) hs hn hB (by omega) fun H l => ?_)
    have h := h.to l
    refine Wl.setInt h (by simpa using hxn) (i64A (minorL_abs hn hB x) (by decide)) fun H h => Wi.add (by unfold I64; omega) (hJ _ _ hxn ⟨rfl, ?_⟩)
    rw [range_set (g := fun k => if k < x + 1 then minorL n m k else 0) (by simp) (fun k _ hk => by
      by_cases g : k < x
      · rw [if_pos g, if_pos (by omega)]
      · rw [if_neg g, if_neg (by omega)])] at h
    exact h
  · have : x = N := by omega
    subst this
    have e : minorsL n m = (List.range x).map fun k => if k < x then minorL n m k else 0 := by
      unfold minorsL
      rw [hN]
      exact List.map_congr_left fun k hk => by rw [if_pos (by simpa using hk)]
    refine hQ _ _ ?_
    rw [e]
    exact h.ret (i := 0) rfl

theorem minorsL_len (n : Nat) (m : List (List Int)) : (minorsL n m).length = 2 ^ n := by simp [minorsL]

theorem fn63 {H0 : Heap} {Q : Post} {v : Value} {m : List (List Int)} {n : Nat} {least : Int} (hr : Has RSS H0 [v] m) (hs : Sq n m) (hn : n ≤ 5) (hB : ∀ r c, (mAt m r c).natAbs ≤ 40)
    (hQ : ∀ H', H0.Le H' → Q (.bool ((minorsL n m).all fun x => decide (least ≤ x))) H') : Runs Tryz.prog 63 #[v, .int .i64 least] H0 Q := by
  refine f63.enter (Wi.call (fn115 hr hs hn hB fun H u f => ?_))
  have h := (Loc.start H0).add f
  refine Wi.call (fn114 (h.rd (cs := [u])) (by rw [minorsL_len]; exact Nat.pow_pos (by decide)) fun r hr hle => Wi.geq ?_)
  have e : decide (least ≤ r) = (minorsL n m).all fun x => decide (least ≤ x) := by
    rw [Bool.eq_iff_iff, List.all_eq_true]
    simp only [decide_eq_true_eq]
    exact ⟨fun g x hx => Int.le_trans g (hle x hx), fun g => g r hr⟩
  rw [e]
  exact hQ _ h.le

end Go.Proofs.YtdmgomeogedjgaaGreat

/-! Contracts of the reference's minors and of the least of them. No condition. -/
namespace Go.Proofs.YtdmgomeogedjgaaGreat
open Go.Ab

/- loop.example/g01343/spec.l01Part -/
def f133.j1 (Q : Post) (i_6 : Value) (I1 : St [5, 6] → Heap → Prop) (out_5' : Value) (H : Heap) : Prop :=
  W.bin .add i_6 (.int .i64 1) H fun v8 H =>
  I1 (out_5', v8, ()) H
def f133.j2 (Q : Post) (k_8 : Value) (I2 : St [7, 8] → Heap → Prop) (row_7' : Value) (H : Heap) : Prop :=
  W.bin .add k_8 (.int .i64 1) H fun v22 H =>
  I2 (row_7', v22, ()) H
def f133.l2 (Q : Post) (m_0 : Value) (s_1 : Value) (i_6 : Value) (out_5 : Value) (I1 : St [5, 6] → Heap → Prop) (I2 : St [7, 8] → Heap → Prop) (row_7 : Value) (k_8 : Value) (H : Heap) : Prop :=
  W.len m_0 H fun v10 H =>
  W.bin .lss k_8 v10 H fun v11 H =>
  W.cond v11 H
  (fun H => W.conv .u64 k_8 H fun v12 H =>
   W.bin .shr s_1 v12 H fun v13 H =>
   W.bin .and v13 (.int .i64 1) H fun v14 H =>
   W.bin .eql v14 (.int .i64 1) H fun v15 H =>
   W.cond v15 H
   (fun H => W.indexAddr 1 m_0 i_6 H fun v16 H =>
    W.get v16 H fun v17 H =>
    W.indexAddr 1 v17 k_8 H fun v18 H =>
    W.get v18 H fun v19 H =>
    W.lit 1 [(.int .i64 0)] 2 [(0, 1, v19)] H fun v20 H =>
    W.append 1 2 row_7 v20 H fun v21 H =>
    f133.j2 Q k_8 I2 v21 H)
   (fun H => f133.j2 Q k_8 I2 row_7 H))
  (fun H => W.lit 1 [(.slice none 0 0)] 29 [(0, 1, row_7)] H fun v23 H =>
   W.append 1 29 out_5 v23 H fun v24 H =>
   f133.j1 Q i_6 I1 v24 H)
def f133.l1 (Q : Post) (m_0 : Value) (s_1 : Value) (I1 : St [5, 6] → Heap → Prop) (out_5 : Value) (i_6 : Value) (H : Heap) : Prop :=
  W.len m_0 H fun v2 H =>
  W.bin .lss i_6 v2 H fun v3 H =>
  W.cond v3 H
  (fun H => W.conv .u64 i_6 H fun v4 H =>
   W.bin .shr s_1 v4 H fun v5 H =>
   W.bin .and v5 (.int .i64 1) H fun v6 H =>
   W.bin .eql v6 (.int .i64 0) H fun v7 H =>
   W.cond v7 H
   (fun H => f133.j1 Q i_6 I1 out_5 H)
   (fun H => W.lit 0 [(.int .i64 0)] 2 [] H fun v9 H =>
    W.loop (S := St [7, 8]) (fun I2 s H => f133.l2 Q m_0 s_1 i_6 out_5 I1 I2 s.1 s.2.1 H) (v9, (.int .i64 0), ()) H))
  (fun H => Q out_5 H)
def f133.w (Q : Post) (m_0 : Value) (s_1 : Value) (H : Heap) : Prop :=
  W.lit 0 [(.slice none 0 0)] 29 [] H fun v1 H =>
  W.loop (S := St [5, 6]) (fun I1 s H => f133.l1 Q m_0 s_1 I1 s.1 s.2.1 H) (v1, (.int .i64 0), ()) H
theorem f133.enter {Q : Post} {m_0 : Value} {s_1 : Value} {H : Heap} (h : f133.w Q m_0 s_1 H) : Runs Tryz.prog 133 #[m_0, s_1] H Q :=
  fn_enter (ann := [(3, [5, 6]), (8, [7, 8])]) (by kernel_rfl) Tryz.func133 rfl (by kernel_rfl) h (by kernel_rfl)

/- loop.example/g01343/spec.l03Minor -/
def f147.w (Q : Post) (m_0 : Value) (s_1 : Value) (H : Heap) : Prop :=
  W.call Tryz.prog (.func (.func 133) #[] #[]) #[m_0, s_1] H fun v1 H =>
  W.call Tryz.prog (.func (.func 127) #[] #[]) #[v1] H fun v2 H =>
  Q v2 H
theorem f147.enter {Q : Post} {m_0 : Value} {s_1 : Value} {H : Heap} (h : f147.w Q m_0 s_1 H) : Runs Tryz.prog 147 #[m_0, s_1] H Q :=
  fn_enter (ann := []) (by kernel_rfl) Tryz.func147 rfl (by kernel_rfl) h (by kernel_rfl)

/- loop.example/g01343/spec.l03Minors -/
def f131.l1 (Q : Post) (m_0 : Value) (I1 : St [3, 4] → Heap → Prop) (out_3 : Value) (s_4 : Value) (H : Heap) : Prop :=
  W.len m_0 H fun v2 H =>
  W.conv .u64 v2 H fun v3 H =>
  W.bin .shl (.int .i64 1) v3 H fun v4 H =>
  W.bin .lss s_4 v4 H fun v5 H =>
  W.cond v5 H
  (fun H => W.call Tryz.prog (.func (.func 147) #[] #[]) #[m_0, s_4] H fun v6 H =>
   W.lit 1 [(.int .i64 0)] 2 [(0, 1, v6)] H fun v7 H =>
   W.append 1 2 out_3 v7 H fun v8 H =>
   W.bin .add s_4 (.int .i64 1) H fun v9 H =>
   I1 (v8, v9, ()) H)
  (fun H => Q out_3 H)
def f131.w (Q : Post) (m_0 : Value) (H : Heap) : Prop :=
  W.lit 0 [(.int .i64 0)] 2 [] H fun v1 H =>
  W.loop (S := St [3, 4]) (fun I1 s H => f131.l1 Q m_0 I1 s.1 s.2.1 H) (v1, (.int .i64 0), ()) H
theorem f131.enter {Q : Post} {m_0 : Value} {H : Heap} (h : f131.w Q m_0 H) : Runs Tryz.prog 131 #[m_0] H Q :=
  fn_enter (ann := [(3, [3, 4])]) (by kernel_rfl) Tryz.func131 rfl (by kernel_rfl) h (by kernel_rfl)

/- loop.example/g01343/spec.l03Least -/
def f82.l1 (Q : Post) (v1 : Value) (I1 : St [4, 5] → Heap → Prop) (out_4 : Value) (i_5 : Value) (H : Heap) : Prop :=
  W.len v1 H fun v4 H =>
  W.bin .lss i_5 v4 H fun v5 H =>
  W.cond v5 H
  (fun H => W.indexAddr 1 v1 i_5 H fun v6 H =>
   W.get v6 H fun v7 H =>
   W.min2 out_4 v7 H fun v8 H =>
   W.bin .add i_5 (.int .i64 1) H fun v9 H =>
   I1 (v8, v9, ()) H)
  (fun H => Q out_4 H)
def f82.w (Q : Post) (m_0 : Value) (H : Heap) : Prop :=
  W.call Tryz.prog (.func (.func 131) #[] #[]) #[m_0] H fun v1 H =>
  W.indexAddr 1 v1 (.int .i64 0) H fun v2 H =>
  W.get v2 H fun v3 H =>
  W.loop (S := St [4, 5]) (fun I1 s H => f82.l1 Q v1 I1 s.1 s.2.1 H) (v3, (.int .i64 1), ()) H
theorem f82.enter {Q : Post} {m_0 : Value} {H : Heap} (h : f82.w Q m_0 H) : Runs Tryz.prog 82 #[m_0] H Q :=
  fn_enter (ann := [(4, [4, 5])]) (by kernel_rfl) Tryz.func82 rfl (by kernel_rfl) h (by kernel_rfl)

/- loop.example/g01343/spec.l03Symmetric -/
theorem fn133 {H0 : Heap} {Q : Post} {v : Value} {m : List (List Int)} {n s : Nat} (hr : Has RSS H0 [v] m) (hs : Sq n m) (hn : n ≤ 5) (hB : ∀ r c, (mAt m r c).natAbs ≤ 40) (hs2 : s < 9223372036854775808)
    (hQ : ∀ H' u, FreshG (Rd.gslice Rd.int 2) 29 H0 u (partRC n m s s) H' → Q u H') : Runs Tryz.prog 133 #[v, .int .i64 (s : Nat)] H0 Q := by
  have hl := hs.1
  refine f133.enter ?_
  unfold f133.w
  refine Wl.lit0 (ty := 29) (Rd.gslice Rd.int 2) rfl ((Loc.start H0).lent hr) fun H o h => ?_
  refine W.for_rule n (fun i st H => ∃ o, st = (o, .int .i64 (i : Nat), ()) ∧ Ab.Loc H0 [.grow (Rd.gslice Rd.int 2) 29 o ((idxs i s).map fun i => (idxs n s).map fun k => mAt m i k), .lent RSS [v] m] H) ⟨_, rfl, h⟩ ?_
  rintro i st H J hi ⟨o, rfl, h⟩ hJ
  refine Wl.len h (Wi.lssC (fun hlt => Wi.tru ?_) fun hge => Wi.fls ?_)
  · have hin : i < n := by omega
    have him : i < m.length := by omega
    have hrl := hs.2 _ (List.getElem_mem him)
    have hI : I64 ((i : Int) + 1) := by unfold I64; omega
    have il := idxs_len i s
    refine Wi.convN (by omega) (Wi.shrN hs2 (by omega) (Wi.and1 (Wi.eqlC (fun hz => Wi.tru ?_) fun hnz => Wi.fls ?_)))
    · have hb2 : s.testBit i = false := by
        cases hb : s.testBit i with
        | false => rfl
        | true => have := bit_iff.2 hb; omega
      unfold f133.j1
      refine Wi.add hI (hJ _ _ hin ⟨o, rfl, ?_⟩)
      rw [idxs_out hb2]
      exact h
    · have hb2 : s.testBit i = true := bit_iff.1 (by omega)
      refine Wl.lit0 (ty := 2) Rd.int rfl h fun H u h => ?_
      refine W.for_rule n (fun k st H => ∃ u, st = (u, .int .i64 (k : Nat), ()) ∧ Ab.Loc H0 [.grow Rd.int 2 u ((idxs k s).map fun k => mAt m i k), .grow (Rd.gslice Rd.int 2) 29 o ((idxs i s).map fun i => (idxs n s).map fun k => mAt m i k), .lent RSS [v] m] H) ⟨_, rfl, h⟩ ?_
      rintro k st H J2 hk ⟨u, rfl, h⟩ hJ2
      have hI2 : I64 ((k : Int) + 1) := by unfold I64; omega
      refine Wl.len h (Wi.lssC (fun hlt2 => Wi.tru ?_) fun hge2 => Wi.fls ?_)
      · have hkn : k < n := by omega
        have hkm : k < m[i].length := by omega
        have kl := idxs_len k s
        have e1 : m[i][k] = mAt m i k := (mAt_at him hkm).symm
        refine Wi.convN (by omega) (Wi.shrN hs2 (by omega) (Wi.and1 (Wi.eqlC (fun ho => Wi.tru ?_) fun hno => Wi.fls ?_)))
        · have hb3 := bit_iff.1 ho
          refine Wl.at1 rfl h him fun w hw => Wl.atIntH hw hkm fun hy => ?_
          rw [e1] at hy ⊢
          refine Wl.pushP (r := Rd.int) (x := mAt m i k) rfl rfl rfl (fun _ => ⟨rfl, rfl, hy⟩) h (by simp; omega) fun H u' h => ?_
          unfold f133.j2
          refine Wi.add hI2 (hJ2 _ _ hkn ⟨u', rfl, ?_⟩)
          rw [idxs_in hb3, List.map_append]
          exact h
        · have hb3 : s.testBit k = false := by
            cases hb : s.testBit k with
            | false => rfl
            | true => exact absurd (bit_iff.2 hb) hno
          unfold f133.j2
          refine Wi.add hI2 (hJ2 _ _ hkn ⟨u, rfl, ?_⟩)
          rw [idxs_out hb3]
          exact h
      · have : k = n := by omega
        subst this
        refine Wl.pushGG h (by simp; omega) fun H o' h => ?_
        unfold f133.j1
        refine Wi.add hI (hJ _ _ hin ⟨o', rfl, ?_⟩)
        rw [idxs_in hb2, List.map_append]
        exact h
  · have : i = n := by omega
    subst this
    exact hQ _ _ (h.retGG (i := 0) rfl)

theorem fn147 {H0 : Heap} {Q : Post} {v : Value} {m : List (List Int)} {n s : Nat} (hr : Has RSS H0 [v] m) (hs : Sq n m) (hn : n ≤ 5) (hB : ∀ r c, (mAt m r c).natAbs ≤ 40) (hs2 : s < 9223372036854775808)
    (hQ : ∀ H', H0.Le H' → Q (.int .i64 (minorL n m s)) H') : Runs Tryz.prog 147 #[v, .int .i64 (s : Nat)] H0 Q := by
  refine f147.enter (Wi.call (fn133 hr hs hn hB hs2 fun H u f => ?_))
  have h := ((Loc.start H0).addG f).asData (i := 0) rfl
  exact Wi.call (fn127 (h.rd (cs := [u])) (partRC_sq n m s) (Nat.le_trans (idxs_len n s) hn) (partRC_rows hn hB) fun H' l => hQ _ (h.to l).le)

theorem fn131 {H0 : Heap} {Q : Post} {v : Value} {m : List (List Int)} {n : Nat} (hr : Has RSS H0 [v] m) (hs : Sq n m) (hn : n ≤ 5) (hB : ∀ r c, (mAt m r c).natAbs ≤ 40)
    (hQ : ∀ H' u, Fresh RS H0 [u] (minorsL n m) H' → Q u H') : Runs Tryz.prog 131 #[v] H0 Q := by
  have hl := hs.1
  have h32 : 2 ^ n ≤ 32 := Nat.pow_le_pow_right (n := 2) (j := 5) (by decide) hn
  refine f131.enter ?_
  unfold f131.w
  refine Wl.lit0 (ty := 2) Rd.int rfl ((Loc.start H0).lent hr) fun H u h => ?_
  refine W.for_rule (2 ^ n) (fun x st H => ∃ u, st = (u, .int .i64 (x : Nat), ()) ∧ Ab.Loc H0 [.grow Rd.int 2 u ((List.range x).map (minorL n m)), .lent RSS [v] m] H) ⟨_, rfl, h⟩ ?_
  rintro x st H J hx ⟨u, rfl, h⟩ hJ
  refine Wl.len h (Wi.convN (by omega) (Wi.shl1 (by omega) ?_))
  rw [hl]
  refine Wi.lssC (fun hlt => Wi.tru ?_) fun hge => Wi.fls ?_
  · have hxn : x < 2 ^ n := Int.ofNat_lt.1 hlt
    refine Wi.call (fn147 (h.rd (cs := [v])) hs hn hB (by omega) fun H l => ?_)
    have h := h.to l
    refine Wl.pushP (r := Rd.int) (x := minorL n m x) rfl rfl rfl (fun _ => ⟨rfl, rfl, i64A (minorL_abs hn hB x) (by decide)⟩) h (by simp; omega) fun H u' h => Wi.add (i64N (q := x + 1) (m := 32) (by omega) (by decide)) (hJ _ _ hxn ⟨u', rfl, ?_⟩)
    have h2 : Ab.Loc H0 [.grow Rd.int 2 u' ((List.range x).map (minorL n m) ++ [minorL n m x]), .lent RSS [v] m] H := h
    rw [range_push rfl] at h2
    exact h2
  · have hge' : ¬ x < 2 ^ n := fun g => hge (Int.ofNat_lt.2 g)
    have : x = 2 ^ n := by omega
    subst this
    exact hQ _ _ ((h.asData (i := 0) rfl).ret (i := 0) rfl)

theorem fn82 {H0 : Heap} {Q : Post} {v : Value} {m : List (List Int)} {n : Nat} (hr : Has RSS H0 [v] m) (hs : Sq n m) (hn : n ≤ 5) (hB : ∀ r c, (mAt m r c).natAbs ≤ 40)
    (hQ : ∀ H' r, H0.Le H' → r ∈ minorsL n m → (∀ e ∈ minorsL n m, r ≤ e) → Q (.int .i64 r) H') : Runs Tryz.prog 82 #[v] H0 Q := by
  have h0 : 0 < (minorsL n m).length := by simp [minorsL]; exact Nat.pow_pos (by decide)
  refine f82.enter (Wi.call (fn131 hr hs hn hB fun H u f => ?_))
  have h := (Loc.start H0).add f
  refine Wl.atInt h (i := 0) h0 fun _ => ?_
  unfold f82.l1
  exact min_loop h h0 fun r h1 h2 => hQ _ r h.le h1 h2

end Go.Proofs.YtdmgomeogedjgaaGreat
