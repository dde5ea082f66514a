/- The contract of mapped. No condition. -/
import Derived.Test.YtdchibdcfdbcpaaGreatGBB
import Derived.Test.YtdchibdcfdbcpaaGreatGAA
import Derived.Test.YtdchibdcfdbcpaaGreatZabG5
import Derived.Test.YtdchibdcfdbcpaaGreatGCC
import Derived.Test.YtdchibdcfdbcpaaGreatZabG9
import Derived.Test.YtdchibdcfdbcpaaGreatZabG7
import Derived.Test.YtdchibdcfdbcpaaGreatZabG8
namespace Go.Proofs.YtdchibdcfdbcpaaGreat
open Go.Ab

/- loop.example/g01343/impl.mapped -/
def f72.l2 (Q : Post) (v6 : Value) (to_1 : Value) (x_13 : Value) (v5 : Value) (I1 : St [13] → Heap → Prop) (I2 : St [20] → Heap → Prop) (x_20 : Value) (H : Heap) : Prop :=
  W.bin .lss x_20 v6 H fun v7 H =>
  W.cond v7 H
  (fun H => W.call Tryz.prog to_1 #[x_13, x_20] H fun v8 H =>
   W.indexAddr 1 v5 x_20 H fun v9 H =>
   W.put v9 v8 H fun _ H =>
   W.bin .add x_20 (.int .i64 1) H fun v10 H =>
   I2 (v10, ()) H)
  (fun H => W.bin .add x_13 (.int .i64 1) H fun v11 H =>
   I1 (v11, ()) H)
def f72.l1 (Q : Post) (v2 : Value) (v1 : Value) (to_1 : Value) (I1 : St [13] → Heap → Prop) (x_13 : Value) (H : Heap) : Prop :=
  W.bin .lss x_13 v2 H fun v3 H =>
  W.cond v3 H
  (fun H => W.indexAddr 1 v1 x_13 H fun v4 H =>
   W.get v4 H fun v5 H =>
   W.len v5 H fun v6 H =>
   W.loop (S := St [20]) (fun I2 s H => f72.l2 Q v6 to_1 x_13 v5 I1 I2 s.1 H) ((.int .i64 0), ()) H)
  (fun H => Q v1 H)
def f72.w (Q : Post) (m_0 : Value) (to_1 : Value) (H : Heap) : Prop :=
  W.call Tryz.prog (.func (.func 75) #[] #[]) #[m_0] H fun v1 H =>
  W.len v1 H fun v2 H =>
  W.loop (S := St [13]) (fun I1 s H => f72.l1 Q v2 v1 to_1 I1 s.1 H) ((.int .i64 0), ()) H
theorem f72.enter {Q : Post} {m_0 : Value} {to_1 : Value} {H : Heap} (h : f72.w Q m_0 to_1 H) : Runs Tryz.prog 72 #[m_0, to_1] H Q :=
  fn_enter (ann := [(3, [13]), (6, [20])]) (by kernel_rfl) Tryz.func72 rfl (by kernel_rfl) h (by kernel_rfl)


/-- A function value of two places that gives a number. -/
def Fun2F (fv : Value) (H : Heap) (m : List (List Int)) (f : Nat → Nat → Int) : Prop :=
  ∀ (H' : Heap) (i k : Nat) (K : Post) (hi : i < m.length), k < m[i].length → H.Le H' → (∀ H2, H'.Le H2 → I64 (f i k) → K (.int .i64 (f i k)) H2) → W.call Tryz.prog fv #[.int .i64 i, .int .i64 k] H' K

def mapF (f : Nat → Nat → Int) (m : List (List Int)) : List (List Int) := m.mapIdx fun i r => r.mapIdx fun k _ => f i k

theorem fn72 {H0 : Heap} {Q : Post} {v fv : Value} {m : List (List Int)} {f : Nat → Nat → Int} (hr : Has RSS H0 [v] m) (hm : okRows m) (hf : Fun2F fv H0 m f) (hQ : ∀ H' u, Fresh RSS H0 [u] (mapF f m) H' → Q u H') : Runs Tryz.prog 72 #[v, fv] H0 Q := by
  have hml := hm.1
  refine f72.enter (Wi.call (fn75 hr hm fun H u g => ?_))
  have h := (Loc.start H0).add g.fresh
  refine Wl.len h ?_
  obtain ⟨us, hus, h⟩ := h.heads (i := 0) rfl rfl
  refine W.for_rule m.length (fun i s H => s = (.int .i64 (i : Nat), ()) ∧ Ab.Loc H0 [.rows RS u us (mapTo (fun i r => r.mapIdx fun k _ => f i k) m i)] H) ⟨rfl, by rw [mapTo_zero]; exact h⟩ ?_
  rintro i s H J hi ⟨rfl, h⟩ hJ
  refine Wi.lssC (fun hlt => Wi.tru ?_) fun hge => Wi.fls ?_
  · have hix : i < m.length := by omega
    have hl := mapTo_length (fun i r => r.mapIdx fun k _ => f i k) m i
    have hget := mapTo_get (f := fun i r => r.mapIdx fun k _ => f i k) hix
    refine Wl.atRow rfl h (by omega) fun w hw hw2 => ?_
    rw [hget] at hw2
    have hrl := hm.2 _ (List.getElem_mem hix)
    refine Wl.lenH hw2 (W.for_rule m[i].length (fun k s H => s = (.int .i64 (k : Nat), ()) ∧ Ab.Loc H0 [.rows RS u us ((mapTo (fun i r => r.mapIdx fun k _ => f i k) m i).set i (mapTo (fun k _ => f i k) m[i] k))] H) ⟨rfl, ?_⟩ ?_)
    · rw [mapTo_zero, ← hget, List.set_getElem_self]
      exact h
    rintro k s H J2 hk ⟨rfl, h⟩ hJ2
    refine Wi.lssC (fun hlt2 => Wi.tru ?_) fun hge2 => Wi.fls ?_
    · have hkx : k < m[i].length := by omega
      have ha : i < ((mapTo (fun i r => r.mapIdx fun k _ => f i k) m i).set i (mapTo (fun k _ => f i k) m[i] k)).length := by rw [List.length_set]; omega
      have hg2 : ((mapTo (fun i r => r.mapIdx fun k _ => f i k) m i).set i (mapTo (fun k _ => f i k) m[i] k))[i] = mapTo (fun k _ => f i k) m[i] k := by simp
      refine hf H i k _ hix hkx h.le fun H2 l2 hb => ?_
      have h := h.to l2
      refine Wl.rowSet h (j := 0) rfl hw ha (by rw [hg2, mapTo_length]; exact hkx) hb fun H h => Wi.add (by unfold I64; omega) (hJ2 _ _ hkx ⟨rfl, ?_⟩)
      rw [hg2, List.set_set, mapTo_succ (f := fun k _ => f i k) hkx] at h
      exact h
    · have : k = m[i].length := by omega
      subst this
      refine Wi.add (by unfold I64; omega) (hJ _ _ hix ⟨rfl, ?_⟩)
      rw [mapTo_all, mapTo_succ (f := fun i r => r.mapIdx fun k _ => f i k) hix] at h
      exact h
  · have : i = m.length := by omega
    subst this
    rw [mapTo_all] at h
    exact hQ _ _ ((h.unrows (i := 0) rfl).ret (i := 0) rfl)

end Go.Proofs.YtdchibdcfdbcpaaGreat
/-! The least of a list, by a loop. No condition. -/
namespace Go.Proofs.YtdchibdcfdbcpaaGreat
open Go.Ab

theorem Wi.min2 {a b : Int} {κ κ' : IntKind} {H : Heap} {k : Post} (h : k (.int κ (if b < a then b else a)) H) : W.min2 (.int κ a) (.int κ' b) H k := h

/-- The least of a list, by a loop. -/
theorem min_loop {H0 H : Heap} {L : List (Atom H0.next)} {v : Value} {l : List Int} {K : Post} (h : Ab.Loc H0 L H) [RdV L [v] RS l] (h0 : 0 < l.length) (hK : ∀ r, r ∈ l → (∀ e ∈ l, r ≤ e) → K (.int .i64 r) H) :
    W.loop (S := Value × Value × Unit) (fun I s H => W.len v H fun v5 H => W.bin .lss s.2.1 v5 H fun v6 H => W.cond v6 H (fun H => W.indexAddr 1 v s.2.1 H fun v7 H => W.get v7 H fun v8 H => W.min2 s.1 v8 H fun v9 H => W.bin .add s.2.1 (.int .i64 1) H fun v10 H => I (v9, v10, ()) H) (fun H => K s.1 H))
      (.int .i64 l[0], .int .i64 1, ()) H := by
  have hsm := (h.rd (cs := [v])).small
  refine W.for_rule (l.length - 1) (fun k s H' => H' = H ∧ ∃ r, s = (.int .i64 r, .int .i64 ((k + 1 : Nat) : Int), ()) ∧ r ∈ l ∧ ∀ j (hj : j < l.length), j ≤ k → r ≤ l[j]) ⟨rfl, l[0], rfl, List.getElem_mem h0, fun j hj hj0 => ?_⟩ ?_
  · have : j = 0 := by omega
    subst this
    exact Int.le_refl _
  rintro k s H' J hk ⟨rfl, r, rfl, hr, hle⟩ hJ
  refine Wl.len h (Wi.lssC (fun hlt => Wi.tru ?_) fun hge => Wi.fls ?_)
  · have hkl : k + 1 < l.length := by omega
    refine Wl.atInt h (i := k + 1) hkl fun _ => Wi.min2 (Wi.add (by unfold I64; omega) (hJ _ _ (by omega) ⟨rfl, _, rfl, ?_, fun j hj hjk => ?_⟩))
    · split
      · exact List.getElem_mem hkl
      · exact hr
    · by_cases e : j = k + 1
      · subst e
        split <;> omega
      · have := hle j hj (by omega)
        split <;> omega
  · refine hK r hr fun e he => ?_
    obtain ⟨j, hj, rfl⟩ := List.mem_iff_getElem.1 he
    exact hle j hj (by omega)

end Go.Proofs.YtdchibdcfdbcpaaGreat

/-! Contracts of the program's minors and of the test by them. No condition. -/
namespace Go.Proofs.YtdchibdcfdbcpaaGreat
open Go.Ab

/- loop.example/g01343/impl.part -/
def f164.j1 (Q : Post) (x_15 : Value) (I1 : St [7, 15] → Heap → Prop) (out_7' : Value) (H : Heap) : Prop :=
  W.bin .add x_15 (.int .i64 1) H fun v7 H =>
  I1 (out_7', v7, ()) H
def f164.j2 (Q : Post) (x_26 : Value) (I2 : St [10, 26] → Heap → Prop) (l_10' : Value) (H : Heap) : Prop :=
  W.bin .add x_26 (.int .i64 1) H fun v15 H =>
  I2 (l_10', v15, ()) H
def f164.l2 (Q : Post) (v8 : Value) (v4 : Value) (columns_2 : Value) (out_7 : Value) (x_15 : Value) (I1 : St [7, 15] → Heap → Prop) (I2 : St [10, 26] → Heap → Prop) (l_10 : Value) (x_26 : Value) (H : Heap) : Prop :=
  W.bin .lss x_26 v8 H fun v9 H =>
  W.cond v9 H
  (fun H => W.indexAddr 1 v4 x_26 H fun v10 H =>
   W.get v10 H fun v11 H =>
   W.call Tryz.prog (.func (.func 110) #[] #[]) #[columns_2, x_26] H fun v12 H =>
   W.cond v12 H
   (fun H => W.lit 1 [(.int .i64 0)] 2 [(0, 1, v11)] H fun v13 H =>
    W.append 1 2 l_10 v13 H fun v14 H =>
    f164.j2 Q x_26 I2 v14 H)
   (fun H => f164.j2 Q x_26 I2 l_10 H))
  (fun H => W.lit 1 [(.slice none 0 0)] 25 [(0, 1, l_10)] H fun v16 H =>
   W.append 1 25 out_7 v16 H fun v17 H =>
   f164.j1 Q x_15 I1 v17 H)
def f164.l1 (Q : Post) (v1 : Value) (m_0 : Value) (rows_1 : Value) (columns_2 : Value) (I1 : St [7, 15] → Heap → Prop) (out_7 : Value) (x_15 : Value) (H : Heap) : Prop :=
  W.bin .lss x_15 v1 H fun v2 H =>
  W.cond v2 H
  (fun H => W.indexAddr 1 m_0 x_15 H fun v3 H =>
   W.get v3 H fun v4 H =>
   W.call Tryz.prog (.func (.func 110) #[] #[]) #[rows_1, x_15] H fun v5 H =>
   W.un .not v5 H fun v6 H =>
   W.cond v6 H
   (fun H => f164.j1 Q x_15 I1 out_7 H)
   (fun H => W.len v4 H fun v8 H =>
    W.loop (S := St [10, 26]) (fun I2 s H => f164.l2 Q v8 v4 columns_2 out_7 x_15 I1 I2 s.1 s.2.1 H) ((.slice none 0 0), (.int .i64 0), ()) H))
  (fun H => Q out_7 H)
def f164.w (Q : Post) (m_0 : Value) (rows_1 : Value) (columns_2 : Value) (H : Heap) : Prop :=
  W.len m_0 H fun v1 H =>
  W.loop (S := St [7, 15]) (fun I1 s H => f164.l1 Q v1 m_0 rows_1 columns_2 I1 s.1 s.2.1 H) ((.slice none 0 0), (.int .i64 0), ()) H
theorem f164.enter {Q : Post} {m_0 : Value} {rows_1 : Value} {columns_2 : Value} {H : Heap} (h : f164.w Q m_0 rows_1 columns_2 H) : Runs Tryz.prog 164 #[m_0, rows_1, columns_2] H Q :=
  fn_enter (ann := [(3, [7, 15]), (8, [10, 26])]) (by kernel_rfl) Tryz.func164 rfl (by kernel_rfl) h (by kernel_rfl)

/- loop.example/g01343/impl.minor -/
def f173.w (Q : Post) (m_0 : Value) (s_1 : Value) (H : Heap) : Prop :=
  W.call Tryz.prog (.func (.func 164) #[] #[]) #[m_0, s_1, s_1] H fun v1 H =>
  W.call Tryz.prog (.func (.func 144) #[] #[]) #[v1] H fun v2 H =>
  Q v2 H
theorem f173.enter {Q : Post} {m_0 : Value} {s_1 : Value} {H : Heap} (h : f173.w Q m_0 s_1 H) : Runs Tryz.prog 173 #[m_0, s_1] H Q :=
  fn_enter (ann := []) (by kernel_rfl) Tryz.func173 rfl (by kernel_rfl) h (by kernel_rfl)

/- loop.example/g01343/impl.minors -/
def f160.l1 (Q : Post) (v4 : Value) (m_0 : Value) (v3 : Value) (I1 : St [11] → Heap → Prop) (x_11 : Value) (H : Heap) : Prop :=
  W.bin .lss x_11 v4 H fun v5 H =>
  W.cond v5 H
  (fun H => W.call Tryz.prog (.func (.func 173) #[] #[]) #[m_0, x_11] H fun v6 H =>
   W.indexAddr 1 v3 x_11 H fun v7 H =>
   W.put v7 v6 H fun _ H =>
   W.bin .add x_11 (.int .i64 1) H fun v8 H =>
   I1 (v8, ()) H)
  (fun H => Q v3 H)
def f160.w (Q : Post) (m_0 : Value) (H : Heap) : Prop :=
  W.len m_0 H fun v1 H =>
  W.bin .shl (.int .i64 1) v1 H fun v2 H =>
  W.make [(.int .i64 0)] 2 v2 v2 H fun v3 H =>
  W.len v3 H fun v4 H =>
  W.loop (S := St [11]) (fun I1 s H => f160.l1 Q v4 m_0 v3 I1 s.1 H) ((.int .i64 0), ()) H
theorem f160.enter {Q : Post} {m_0 : Value} {H : Heap} (h : f160.w Q m_0 H) : Runs Tryz.prog 160 #[m_0] H Q :=
  fn_enter (ann := [(3, [11])]) (by kernel_rfl) Tryz.func160 rfl (by kernel_rfl) h (by kernel_rfl)

/- slices.Min[[]int64,int64] -/
def f159.l1 (Q : Post) (x_0 : Value) (I1 : St [3, 4] → Heap → Prop) (m_3 : Value) (i_4 : Value) (H : Heap) : Prop :=
  W.len x_0 H fun v5 H =>
  W.bin .lss i_4 v5 H fun v6 H =>
  W.cond v6 H
  (fun H => W.indexAddr 1 x_0 i_4 H fun v7 H =>
   W.get v7 H fun v8 H =>
   W.min2 m_3 v8 H fun v9 H =>
   W.bin .add i_4 (.int .i64 1) H fun v10 H =>
   I1 (v9, v10, ()) H)
  (fun H => Q m_3 H)
def f159.w (Q : Post) (x_0 : Value) (H : Heap) : Prop :=
  W.len x_0 H fun v1 H =>
  W.bin .lss v1 (.int .i64 1) H fun v2 H =>
  W.cond v2 H
  (fun H => W.no H)
  (fun H => W.indexAddr 1 x_0 (.int .i64 0) H fun v3 H =>
   W.get v3 H fun v4 H =>
   W.loop (S := St [3, 4]) (fun I1 s H => f159.l1 Q x_0 I1 s.1 s.2.1 H) (v4, (.int .i64 1), ()) H)
theorem f159.enter {Q : Post} {x_0 : Value} {H : Heap} (h : f159.w Q x_0 H) : Runs Tryz.prog 159 #[x_0] H Q :=
  fn_enter (ann := [(5, [3, 4])]) (by kernel_rfl) Tryz.func159 rfl (by kernel_rfl) h (by kernel_rfl)

/- loop.example/g01343/impl.isP -/
def f133.w (Q : Post) (m_0 : Value) (least_1 : Value) (H : Heap) : Prop :=
  W.call Tryz.prog (.func (.func 160) #[] #[]) #[m_0] H fun v1 H =>
  W.call Tryz.prog (.func (.func 159) #[] #[]) #[v1] H fun v2 H =>
  W.bin .geq v2 least_1 H fun v3 H =>
  Q v3 H
theorem f133.enter {Q : Post} {m_0 : Value} {least_1 : Value} {H : Heap} (h : f133.w Q m_0 least_1 H) : Runs Tryz.prog 133 #[m_0, least_1] H Q :=
  fn_enter (ann := []) (by kernel_rfl) Tryz.func133 rfl (by kernel_rfl) h (by kernel_rfl)

/- loop.example/g01343/impl.symmetric -/
def f137.w (Q : Post) (m_0 : Value) (H : Heap) : Prop :=
  W.box m_0 24 H fun v1 H =>
  W.get v1 H fun v2 H =>
  W.call Tryz.prog (.func (.func 72) #[] #[]) #[v2, (.func (.func 163) #[] #[v1])] H fun v3 H =>
  Q v3 H
theorem f137.enter {Q : Post} {m_0 : Value} {H : Heap} (h : f137.w Q m_0 H) : Runs Tryz.prog 137 #[m_0] H Q :=
  fn_enter (ann := []) (by kernel_rfl) Tryz.func137 rfl (by kernel_rfl) h (by kernel_rfl)

/- loop.example/g01343/impl.symmetric$1 -/
def f163.w (Q : Post) (i_0 : Value) (k_1 : Value) (x_2 : Value) (H : Heap) : Prop :=
  W.get x_2 H fun v1 H =>
  W.indexAddr 1 v1 i_0 H fun v2 H =>
  W.get v2 H fun v3 H =>
  W.indexAddr 1 v3 k_1 H fun v4 H =>
  W.get v4 H fun v5 H =>
  W.get x_2 H fun v6 H =>
  W.indexAddr 1 v6 k_1 H fun v7 H =>
  W.get v7 H fun v8 H =>
  W.indexAddr 1 v8 i_0 H fun v9 H =>
  W.get v9 H fun v10 H =>
  W.bin .add v5 v10 H fun v11 H =>
  Q v11 H
theorem f163.enter {Q : Post} {i_0 : Value} {k_1 : Value} {x_2 : Value} {H : Heap} (h : f163.w Q i_0 k_1 x_2 H) : Runs Tryz.prog 163 #[i_0, k_1, x_2] H Q :=
  fn_enter (ann := []) (by kernel_rfl) Tryz.func163 rfl (by kernel_rfl) h (by kernel_rfl)


theorem fn159 {H0 : Heap} {Q : Post} {v : Value} {l : List Int} (hr : Has RS H0 [v] l) (h0 : 0 < l.length) (hQ : ∀ r, r ∈ l → (∀ e ∈ l, r ≤ e) → Q (.int .i64 r) H0) : Runs Tryz.prog 159 #[v] H0 Q := by
  have h := (Loc.start H0).lent hr
  refine f159.enter (Wl.len h (Wi.lssC (fun h => by omega) fun _ => Wi.fls (Wl.atInt h (i := 0) h0 fun _ => ?_)))
  unfold f159.l1
  exact min_loop h h0 hQ

theorem fn164 {H0 : Heap} {Q : Post} {v : Value} {m : List (List Int)} {n a b : Nat} (hr : Has RSS H0 [v] m) (hs : Sq n m) (hn : n ≤ 5) (hB : ∀ r c, (mAt m r c).natAbs ≤ 40) (ha : a < 9223372036854775808) (hb : b < 9223372036854775808)
    (hQ : ∀ H' u, FreshG RS 25 H0 u (partRC n m a b) H' → Q u H') : Runs Tryz.prog 164 #[v, .int .i64 (a : Nat), .int .i64 (b : Nat)] H0 Q := by
  have hl := hs.1
  have h := (Loc.start H0).lent hr
  refine f164.enter (Wl.len h ?_)
  refine W.for_rule n (fun i st H => ∃ o, st = (o, .int .i64 (i : Nat), ()) ∧ Ab.Loc H0 [.grow RS 25 o ((idxs i a).map fun i => (idxs n b).map fun k => mAt m i k), .lent RSS [v] m] H) ⟨_, rfl, h.nilG RS 25⟩ ?_
  rintro i st H J hi ⟨o, rfl, h⟩ hJ
  refine Wi.lssC (fun hlt => Wi.tru ?_) fun hge => Wi.fls ?_
  · have hin : i < n := by omega
    have him : i < m.length := by omega
    have hrl := hs.2 _ (List.getElem_mem him)
    have hI : I64 ((i : Int) + 1) := by unfold I64; omega
    refine Wl.atL rfl h him fun w h => Wi.call (fn110 ha (by omega) ?_)
    have il := idxs_len i a
    cases hb2 : a.testBit i with
    | false =>
      simp only [gw]
      unfold f164.j1
      refine Wi.add hI (hJ _ _ hin ⟨o, rfl, ?_⟩)
      rw [idxs_out hb2]
      exact h.tl
    | true =>
      simp only [gw]
      refine Wl.len h ?_
      refine W.for_rule n (fun k st H => ∃ u, st = (u, .int .i64 (k : Nat), ()) ∧ Ab.Loc H0 [.grow Rd.int 2 u ((idxs k b).map fun k => mAt m i k), .lent RS [w] m[i], .grow RS 25 o ((idxs i a).map fun i => (idxs n b).map fun k => mAt m i k), .lent RSS [v] m] H) ⟨_, rfl, h.nilG Rd.int 2⟩ ?_
      rintro k st H J2 hk ⟨u, rfl, h⟩ hJ2
      have hI2 : I64 ((k : Int) + 1) := by unfold I64; omega
      refine Wi.lssC (fun hlt2 => Wi.tru ?_) fun hge2 => Wi.fls ?_
      · have hkn : k < n := by omega
        have hkm : k < m[i].length := by omega
        have e1 : m[i][k] = mAt m i k := (mAt_at him hkm).symm
        refine Wl.atInt h hkm fun hy => Wi.call (fn110 hb (by omega) ?_)
        rw [e1] at hy ⊢
        cases hb3 : b.testBit k with
        | false =>
          simp only [gw]
          unfold f164.j2
          refine Wi.add hI2 (hJ2 _ _ hkn ⟨u, rfl, ?_⟩)
          rw [idxs_out hb3]
          exact h
        | true =>
          simp only [gw]
          have kl := idxs_len k b
          refine Wl.pushP (r := Rd.int) (x := mAt m i k) rfl rfl rfl (fun _ => ⟨rfl, rfl, hy⟩) h (by simp; omega) fun H u' h => ?_
          unfold f164.j2
          refine Wi.add hI2 (hJ2 _ _ hkn ⟨u', rfl, ?_⟩)
          rw [idxs_in hb3, List.map_append]
          exact h
      · have : k = n := by omega
        subst this
        refine Wl.pushG h (by simp; omega) fun H o' h => ?_
        unfold f164.j1
        refine Wi.add hI (hJ _ _ hin ⟨o', rfl, ?_⟩)
        rw [idxs_in hb2, List.map_append]
        exact h.tl
  · have : i = n := by omega
    subst this
    exact hQ _ _ (h.retGG (i := 0) rfl)

theorem fn173 {H0 : Heap} {Q : Post} {v : Value} {m : List (List Int)} {n s : Nat} (hr : Has RSS H0 [v] m) (hs : Sq n m) (hn : n ≤ 5) (hB : ∀ r c, (mAt m r c).natAbs ≤ 40) (hs2 : s < 9223372036854775808)
    (hQ : ∀ H', H0.Le H' → Q (.int .i64 (minorL n m s)) H') : Runs Tryz.prog 173 #[v, .int .i64 (s : Nat)] H0 Q := by
  refine f173.enter (Wi.call (fn164 hr hs hn hB hs2 hs2 fun H u f => ?_))
  have h := ((Loc.start H0).addG f).asData (i := 0) rfl
  exact Wi.call (fn144 (h.rd (cs := [u])) (partRC_sq n m s) (Nat.le_trans (idxs_len n s) hn) (partRC_rows hn hB) fun H' l => hQ _ (h.to l).le)

theorem fn160 {H0 : Heap} {Q : Post} {v : Value} {m : List (List Int)} {n : Nat} (hr : Has RSS H0 [v] m) (hs : Sq n m) (hn : n ≤ 5) (hB : ∀ r c, (mAt m r c).natAbs ≤ 40)
    (hQ : ∀ H' u, Fresh RS H0 [u] (minorsL n m) H' → Q u H') : Runs Tryz.prog 160 #[v] H0 Q := by
  have hl := hs.1
  have h32 : 2 ^ n ≤ 32 := Nat.pow_le_pow_right (n := 2) (j := 5) (by decide) hn
  have h := (Loc.start H0).lent hr
  refine f160.enter (Wl.len h (Wi.shl1 (by omega) ?_))
  rw [hl]
  generalize hN : 2 ^ n = N at *
  refine Wl.make (r := Rd.int) (z := 0) (fun _ => ⟨rfl, rfl, by unfold I64; omega⟩) h (by omega) (by decide) fun H u h => Wl.len h ?_
  have h := h.asData (i := 0) rfl
  rw [List.length_replicate]
  have e0 : List.replicate N (0 : Int) = (List.range N).map fun k => if k < 0 then minorL n m k else 0 := by
    apply List.ext_getElem <;> simp
  rw [e0] at h
  refine W.for_rule N (fun x st H => st = (.int .i64 (x : Nat), ()) ∧ Ab.Loc H0 [.data RS [u] ((List.range N).map fun k => if k < x then minorL n m k else 0), .lent RSS [v] m] H) ⟨rfl, h⟩ ?_
  rintro x st H J hx ⟨rfl, h⟩ hJ
  refine Wi.lssC (fun hlt => Wi.tru ?_) fun hge => Wi.fls ?_
  · have hxn : x < N := by omega
    refine Wi.call (fn173 (h.rd (cs := [v])) hs hn hB (by omega) fun H l => ?_)
    have h := h.to l
    refine Wl.setInt h (by simpa using hxn) (i64A (minorL_abs hn hB x) (by decide)) fun H h => Wi.add (by unfold I64; omega) (hJ _ _ hxn ⟨rfl, ?_⟩)
    rw [range_set (g := fun k => if k < x + 1 then minorL n m k else 0) (by simp) (fun k _ hk => by
      by_cases g : k < x
      · rw [if_pos g, if_pos (by omega)]
      · rw [if_neg g, if_neg (by omega)])] at h
    exact h
  · have : x = N := by omega
    subst this
    have e : minorsL n m = (List.range x).map fun k => if k < x then minorL n m k else 0 := by
      unfold minorsL
      rw [hN]
      exact List.map_congr_left fun k hk => by rw [if_pos (by simpa using hk)]
    refine hQ _ _ ?_
    rw [e]
    exact h.ret (i := 0) rfl

theorem minorsL_len (n : Nat) (m : List (List Int)) : (minorsL n m).length = 2 ^ n := by simp [minorsL]

theorem fn133 {H0 : Heap} {Q : Post} {v : Value} {m : List (List Int)} {n : Nat} {least : Int} (hr : Has RSS H0 [v] m) (hs : Sq n m) (hn : n ≤ 5) (hB : ∀ r c, (mAt m r c).natAbs ≤ 40)
    (hQ : ∀ H', H0.Le H' → Q (.bool ((minorsL n m).all fun x => decide (least ≤ x))) H') : Runs Tryz.prog 133 #[v, .int .i64 least] H0 Q := by
  refine f133.enter (Wi.call (fn160 hr hs hn hB fun H u f => ?_))
  have h := (Loc.start H0).add f
  refine Wi.call (fn159 (h.rd (cs := [u])) (by rw [minorsL_len]; exact Nat.pow_pos (by decide)) fun r hr hle => Wi.geq ?_)
  have e : decide (least ≤ r) = (minorsL n m).all fun x => decide (least ≤ x) := by
    rw [Bool.eq_iff_iff, List.all_eq_true]
    simp only [decide_eq_true_eq]
    exact ⟨fun g x hx => Int.le_trans g (hle x hx), fun g => g r hr⟩
  rw [e]
  exact hQ _ h.le

theorem fn137 {H0 : Heap} {Q : Post} {v : Value} {m : List (List Int)} {n : Nat} (hr : Has RSS H0 [v] m) (hs : Sq n m) (hn : n ≤ 5) (hB : ∀ r c, (mAt m r c).natAbs ≤ 20)
    (hQ : ∀ H' u, Fresh RSS H0 [u] (symL n m) H' → Q u H') : Runs Tryz.prog 137 #[v] H0 Q := by
  have hl := hs.1
  have h := (Loc.start H0).lent hr
  refine f137.enter (Wl.box1 h hr.cell1 fun H b h => Wl.get h rfl ?_)
  have hf : Fun2F (.func (.func 163) #[] #[pt b 0]) H m fun i k => mAt m i k + mAt m k i := fun H' i k K hi hk l hK => by
    have h := h.to l
    have hin : i < n := by omega
    have hri := hs.2 _ (List.getElem_mem hi)
    have hkm : k < m.length := by omega
    have hrk := hs.2 _ (List.getElem_mem hkm)
    have hik : i < m[k].length := by omega
    have b1 := hB i k
    have b2 := hB k i
    have hI : I64 (mAt m i k + mAt m k i) := by unfold I64; omega
    refine Wi.callV (f163.enter (Wl.get h rfl (Wl.at1 rfl h hi fun w hw => Wl.atIntH hw hk fun _ => Wl.get h rfl (Wl.at1 rfl h hkm fun w2 hw2 => Wl.atIntH hw2 hik fun _ => ?_))))
    rw [show m[i][k] = mAt m i k from (mAt_at hi hk).symm, show m[k][i] = mAt m k i from (mAt_at hkm hik).symm]
    exact Wi.add hI (hK _ (.refl _) hI)
  refine Wi.call (fn72 (h.rd (cs := [v])) ⟨by omega, fun r hr => by rw [hs.2 r hr]; omega⟩ hf fun H' u f => ?_)
  have e : mapF (fun i k => mAt m i k + mAt m k i) m = symL n m := by
    have hsq : Sq n (mapF (fun i k => mAt m i k + mAt m k i) m) := by
      refine ⟨by simp [mapF, hl], fun r hr => ?_⟩
      obtain ⟨a, ha, rfl⟩ := List.mem_iff_getElem.1 hr
      have ha' : a < m.length := by simpa [mapF] using ha
      simp only [mapF, List.getElem_mapIdx, List.length_mapIdx]
      exact hs.2 _ (List.getElem_mem ha')
    refine hsq.ext (tabL_sq n _) fun r c hr hc => ?_
    have hr' : r < m.length := by omega
    have hc' : c < m[r].length := by rw [hs.2 _ (List.getElem_mem hr')]; exact hc
    have h1 : r < (mapF (fun i k => mAt m i k + mAt m k i) m).length := by rw [hsq.1]; exact hr
    unfold symL
    rw [tabL_at hr hc, mAt_at h1 (by rw [hsq.2 _ (List.getElem_mem h1)]; exact hc)]
    simp [mapF]
  rw [e] at f
  exact hQ _ _ ((h.add f).ret (i := 0) rfl)

end Go.Proofs.YtdchibdcfdbcpaaGreat

/-! The contract of l01Own. No condition. -/
namespace Go.Proofs.YtdchibdcfdbcpaaGreat
open Go.Ab

/- loop.example/g01343/spec.l01Own -/
def f79.w (Q : Post) (list_0 : Value) (H : Heap) : Prop :=
  W.lit 0 [(.int .i64 0)] 2 [] H fun v1 H =>
  W.append 1 2 v1 list_0 H fun v2 H =>
  Q v2 H
theorem f79.enter {Q : Post} {list_0 : Value} {H : Heap} (h : f79.w Q list_0 H) : Runs Tryz.prog 79 #[list_0] H Q :=
  fn_enter (ann := []) (by kernel_rfl) Tryz.func79 rfl (by kernel_rfl) h (by kernel_rfl)


theorem fn79 {H0 : Heap} {Q : Post} {v : Value} {xs : List Int} (hr : Has RS H0 [v] xs) (hlen : xs.length ≤ 16777216) (hQ : ∀ H' u, FreshG Rd.int 2 H0 u xs H' → Q u H') : Runs Tryz.prog 79 #[v] H0 Q :=
  f79.enter (Wl.lit0 Rd.int rfl ((Loc.start H0).lent hr) fun H u h => Wl.appendH (i := 0) rfl h rfl h.rd (by simpa using hlen) fun H' v' h => hQ _ _ (h.retGG (i := 0) rfl))

end Go.Proofs.YtdchibdcfdbcpaaGreat

/-! The contract of the reference's determinant, by the numbers of the first row. No condition. -/
namespace Go.Proofs.YtdchibdcfdbcpaaGreat
open Go.Ab

/- loop.example/g01343/spec.l01Det -/
def f124.j1 (Q : Post) (k_4 : Value) (I1 : St [3, 4] → Heap → Prop) (sum_3' : Value) (H : Heap) : Prop :=
  W.bin .add k_4 (.int .i64 1) H fun v10 H =>
  I1 (sum_3', v10, ()) H
def f124.j2 (Q : Post) (sum_3 : Value) (k_4 : Value) (I1 : St [3, 4] → Heap → Prop) (own_7 : Value) (H : Heap) : Prop :=
  W.bin .add sum_3 own_7 H fun v35 H =>
  f124.j1 Q k_4 I1 v35 H
def f124.l2 (Q : Post) (rows_0 : Value) (k_4 : Value) (sum_3 : Value) (I1 : St [3, 4] → Heap → Prop) (I2 : St [5, 6] → Heap → Prop) (rest_5 : Value) (i_6 : Value) (H : Heap) : Prop :=
  W.len rows_0 H fun v12 H =>
  W.bin .lss i_6 v12 H fun v13 H =>
  W.cond v13 H
  (fun H => W.indexAddr 1 rows_0 i_6 H fun v14 H =>
   W.get v14 H fun v15 H =>
   W.slice 1 v15 none (some k_4) H fun v16 H =>
   W.callQ Tryz.prog (.func (.func 79) #[] #[]) #[v16] H fun v17 H =>
   W.indexAddr 1 rows_0 i_6 H fun v18 H =>
   W.get v18 H fun v19 H =>
   W.bin .add k_4 (.int .i64 1) H fun v20 H =>
   W.slice 1 v19 (some v20) none H fun v21 H =>
   W.append 1 2 v17 v21 H fun v22 H =>
   W.lit 1 [(.slice none 0 0)] 25 [(0, 1, v22)] H fun v23 H =>
   W.append 1 25 rest_5 v23 H fun v24 H =>
   W.bin .add i_6 (.int .i64 1) H fun v25 H =>
   I2 (v24, v25, ()) H)
  (fun H => W.indexAddr 1 rows_0 (.int .i64 0) H fun v26 H =>
   W.get v26 H fun v27 H =>
   W.indexAddr 1 v27 k_4 H fun v28 H =>
   W.get v28 H fun v29 H =>
   W.callQ Tryz.prog (.func (.func 124) #[] #[]) #[rest_5] H fun v30 H =>
   W.bin .mul v29 v30 H fun v31 H =>
   W.bin .rem k_4 (.int .i64 2) H fun v32 H =>
   W.bin .eql v32 (.int .i64 1) H fun v33 H =>
   W.cond v33 H
   (fun H => W.un .neg v31 H fun v34 H =>
    f124.j2 Q sum_3 k_4 I1 v34 H)
   (fun H => f124.j2 Q sum_3 k_4 I1 v31 H))
def f124.l1 (Q : Post) (rows_0 : Value) (I1 : St [3, 4] → Heap → Prop) (sum_3 : Value) (k_4 : Value) (H : Heap) : Prop :=
  W.len rows_0 H fun v3 H =>
  W.bin .lss k_4 v3 H fun v4 H =>
  W.cond v4 H
  (fun H => W.indexAddr 1 rows_0 (.int .i64 0) H fun v5 H =>
   W.get v5 H fun v6 H =>
   W.indexAddr 1 v6 k_4 H fun v7 H =>
   W.get v7 H fun v8 H =>
   W.bin .eql v8 (.int .i64 0) H fun v9 H =>
   W.cond v9 H
   (fun H => f124.j1 Q k_4 I1 sum_3 H)
   (fun H => W.lit 0 [(.slice none 0 0)] 25 [] H fun v11 H =>
    W.loop (S := St [5, 6]) (fun I2 s H => f124.l2 Q rows_0 k_4 sum_3 I1 I2 s.1 s.2.1 H) (v11, (.int .i64 1), ()) H))
  (fun H => Q sum_3 H)
def f124.w (Q : Post) (rows_0 : Value) (H : Heap) : Prop :=
  W.len rows_0 H fun v1 H =>
  W.bin .eql v1 (.int .i64 0) H fun v2 H =>
  W.cond v2 H
  (fun H => Q (.int .i64 1) H)
  (fun H => W.loop (S := St [3, 4]) (fun I1 s H => f124.l1 Q rows_0 I1 s.1 s.2.1 H) ((.int .i64 0), (.int .i64 0), ()) H)
theorem f124.enter {Q : Post} {rows_0 : Value} {H : Heap} (h : f124.w Q rows_0 H) : Runs Tryz.prog 124 #[rows_0] H Q :=
  fn_enter (ann := [(5, [3, 4]), (10, [5, 6])]) (by kernel_rfl) Tryz.func124 rfl (by kernel_rfl) h (by kernel_rfl)


/-- Rows that have grown. -/
abbrev RG : Rd (List (List Int)) := Rd.slice (Rd.gslice Rd.int 2)

theorem tmod_two (k : Nat) : ((k : Int).tmod 2 = 1) ↔ k % 2 = 1 := by
  rw [Int.tmod_eq_emod_of_nonneg (by omega)]
  omega

theorem fn124 : ∀ {n : Nat} {H0 : Heap} {Q : Post} {v : Value} {rows : List (List Int)}, Has RG H0 [v] rows → Sq n rows → n ≤ 5 → (∀ i, i < n → nsum n (fun j => (mAt rows i j).natAbs) ≤ 200) →
    (∀ H', H0.Le H' → Q (.int .i64 (det n (mAt rows))) H') → Runs Tryz.prog 124 #[v] H0 Q := by
  intro n
  induction n with
  | zero =>
    intro H0 Q v rows hr hs hn hR hQ
    refine f124.enter (Wl.lenH hr (Wi.eqlC (fun _ => Wi.tru (hQ _ (.refl _))) fun h => absurd (by rw [hs.1]; rfl) h))
  | succ m ih =>
    intro H0 Q v rows hr hs hn hR hQ
    have hl := hs.1
    have h200 : 200 ^ (m + 1) ≤ 320000000000 := pow200 hn
    refine f124.enter (Wl.lenH hr (Wi.eqlC (fun h => by omega) fun _ => Wi.fls ?_))
    refine W.for_rule (m + 1) (fun k s H => s = (.int .i64 (sumTo k fun k => sgn k * mAt rows 0 k * det m (minorF (mAt rows) k)), .int .i64 (k : Nat), ()) ∧ Ab.Loc H0 [.lent RG [v] rows] H) ⟨rfl, (Loc.start H0).lent hr⟩ ?_
    rintro k s H J hk ⟨rfl, h⟩ hJ
    refine Wl.len h (Wi.lssC (fun hlt => Wi.tru ?_) fun hge => Wi.fls ?_)
    · have hkm : k < m + 1 := by omega
      have h0 : 0 < rows.length := by omega
      have hr0 := hs.2 _ (List.getElem_mem h0)
      have hk0 : k < rows[0].length := by omega
      have e0 : rows[0][k] = mAt rows 0 k := (mAt_at h0 hk0).symm
      obtain ⟨p1, p2⟩ := det_part hR (m := k + 1) (by omega)
      have p2 := p2 k hkm
      have p3 := (det_part hR (m := k) (by omega)).1
      have next : ∀ H', Ab.Loc H0 [.lent RG [v] rows] H' → f124.j1 Q (.int .i64 (k : Nat)) J (.int .i64 (sumTo (k + 1) fun k => sgn k * mAt rows 0 k * det m (minorF (mAt rows) k))) H' := fun H' h' => by
        unfold f124.j1
        exact Wi.add (by unfold I64; omega) (hJ _ _ hkm ⟨rfl, h'⟩)
      refine Wl.at1 (i := 0) rfl h h0 fun w hw => Wl.atIntH hw.ofG1 hk0 fun _ => Wi.eqlC (fun hz => Wi.tru ?_) fun hnz => Wi.fls (Wl.lit0 (ty := 25) (Rd.gslice Rd.int 2) rfl h fun H y h => ?_)
      · have := next H h
        simp only [sumTo] at this
        rw [← e0, hz, Int.mul_zero, Int.zero_mul, Int.add_zero] at this
        exact this
      refine W.for_rule m (fun i s H => ∃ y, s = (y, .int .i64 ((i + 1 : Nat) : Int), ()) ∧ Ab.Loc H0 [.grow (Rd.gslice Rd.int 2) 25 y ((rows.tail.take i).map (dropCol k)), .lent RG [v] rows] H) ⟨_, rfl, h⟩ ?_
      rintro i s H J2 hi ⟨y, rfl, h⟩ hJ2
      refine Wl.len h (Wi.lssC (fun hlt2 => Wi.tru ?_) fun hge2 => Wi.fls ?_)
      · have him : i < m := by omega
        have hix : i + 1 < rows.length := by omega
        have hri := hs.2 _ (List.getElem_mem hix)
        refine Wl.at1 (i := i + 1) rfl h hix fun w1 hw1 => Wl.cutLoH (k := k) hw1.ofG1 (by omega) fun w2 hw2 => Wi.callQ (fn79 hw2 (by simp; omega) fun H u f => ⟨f.le, ?_⟩)
        have h := h.addG f
        refine Wl.at1 (i := i + 1) rfl h hix fun w3 hw3 => Wi.add (by unfold I64; omega) (Wl.cutHiG (k := k + 1) rfl hw3 (by omega) fun w4 hw4 => ?_)
        refine Wl.appendH (i := 0) rfl h rfl hw4 (by simp; omega) fun H u' h => ?_
        have h2 : Ab.Loc H0 [.grow Rd.int 2 u' (dropCol k rows[i + 1]), .grow (Rd.gslice Rd.int 2) 25 y ((rows.tail.take i).map (dropCol k)), .lent RG [v] rows] H := h
        refine Wl.pushGG h2 (by simp; omega) fun H y' h => Wi.add (by unfold I64; omega) (hJ2 _ _ him ⟨y', rfl, ?_⟩)
        rw [List.take_succ_eq_append_getElem (by simp; omega), List.map_append]
        simpa using h
      · have : i = m := by omega
        subst this
        have h := h.asData (i := 0) rfl
        have et : rows.tail.take i = rows.tail := List.take_of_length_le (by simp; omega)
        rw [et] at h
        have ed : det i (mAt (rows.tail.map (dropCol k))) = det i (minorF (mAt rows) k) := det_congr fun r c hr hc => rest_at hs hkm hr
        refine Wl.at1 (i := 0) rfl h h0 fun w hw => Wl.atIntH hw.ofG1 hk0 fun _ => ?_
        refine Wi.callQ (ih (h.rd (cs := [y])) (rest_sq hs hkm) (by omega) (fun r hr => ?_) fun H' l => ⟨l, ?_⟩)
        · have := minorF_rows hR (k := k) (by omega) r hr
          rw [nsum_congr fun j _ => by rw [rest_at (j := j) hs hkm hr]]
          exact this
        have h := (h.to l).tl
        rw [e0, ed]
        refine Wi.mul (i64A p2 (by omega)) (Wi.rem (by decide) (by
          rw [Int.tmod_eq_emod_of_nonneg (by omega)]
          unfold I64
          omega) ?_)
        have hnx := next H' h
        simp only [sumTo] at hnx p1
        refine Wi.eqlC (fun ho => Wi.tru (Wi.neg (i64A (negA p2) (by omega)) ?_)) fun he => Wi.fls ?_
        · have hs1 : sgn k = -1 := by unfold sgn; rw [if_neg (by have := (tmod_two k).1 ho; omega)]
          rw [hs1] at hnx p1
          have eq : -1 * mAt rows 0 k * det i (minorF (mAt rows) k) = -(mAt rows 0 k * det i (minorF (mAt rows) k)) := by
            rw [Int.neg_mul, Int.one_mul, Int.neg_mul]
          rw [eq] at hnx p1
          unfold f124.j2
          exact Wi.add (i64A p1 (by omega)) hnx
        · have hs1 : sgn k = 1 := by unfold sgn; rw [if_pos (by have := mt (tmod_two k).2 he; omega)]
          rw [hs1, Int.one_mul] at hnx p1
          unfold f124.j2
          exact Wi.add (i64A p1 (by omega)) hnx
    · have : k = m + 1 := by omega
      subst this
      exact hQ _ h.le

end Go.Proofs.YtdchibdcfdbcpaaGreat

/-! Contracts of the reference's columns, solve and point. No condition. -/
namespace Go.Proofs.YtdchibdcfdbcpaaGreat
open Go.Ab

/- loop.example/g01343/spec.l01Columns -/
def f95.j1 (Q : Post) (k_8 : Value) (I2 : St [7, 8] → Heap → Prop) (row_7' : Value) (H : Heap) : Prop :=
  W.bin .add k_8 (.int .i64 1) H fun v18 H =>
  I2 (row_7', v18, ()) H
def f95.j2 (Q : Post) (k_8 : Value) (I2 : St [7, 8] → Heap → Prop) (row_7'' : Value) (H : Heap) : Prop :=
  f95.j1 Q k_8 I2 row_7'' H
def f95.l2 (Q : Post) (m_0 : Value) (s_1 : Value) (i_6 : Value) (out_5 : Value) (I1 : St [5, 6] → Heap → Prop) (I2 : St [7, 8] → Heap → Prop) (row_7 : Value) (k_8 : Value) (H : Heap) : Prop :=
  W.len m_0 H fun v5 H =>
  W.bin .lss k_8 v5 H fun v6 H =>
  W.cond v6 H
  (fun H => W.conv .u64 k_8 H fun v7 H =>
   W.bin .shr s_1 v7 H fun v8 H =>
   W.bin .and v8 (.int .i64 1) H fun v9 H =>
   W.bin .eql v9 (.int .i64 1) H fun v10 H =>
   W.cond v10 H
   (fun H => W.indexAddr 1 m_0 i_6 H fun v11 H =>
    W.get v11 H fun v12 H =>
    W.indexAddr 1 v12 k_8 H fun v13 H =>
    W.get v13 H fun v14 H =>
    W.un .neg v14 H fun v15 H =>
    W.lit 1 [(.int .i64 0)] 2 [(0, 1, v15)] H fun v16 H =>
    W.append 1 2 row_7 v16 H fun v17 H =>
    f95.j1 Q k_8 I2 v17 H)
   (fun H => W.bin .eql i_6 k_8 H fun v19 H =>
    W.cond v19 H
    (fun H => W.lit 1 [(.int .i64 0)] 2 [(0, 1, (.int .i64 1))] H fun v20 H =>
     W.append 1 2 row_7 v20 H fun v21 H =>
     f95.j2 Q k_8 I2 v21 H)
    (fun H => W.lit 1 [(.int .i64 0)] 2 [(0, 1, (.int .i64 0))] H fun v22 H =>
     W.append 1 2 row_7 v22 H fun v23 H =>
     f95.j2 Q k_8 I2 v23 H)))
  (fun H => W.lit 1 [(.slice none 0 0)] 25 [(0, 1, row_7)] H fun v24 H =>
   W.append 1 25 out_5 v24 H fun v25 H =>
   W.bin .add i_6 (.int .i64 1) H fun v26 H =>
   I1 (v25, v26, ()) H)
def f95.l1 (Q : Post) (m_0 : Value) (s_1 : Value) (I1 : St [5, 6] → Heap → Prop) (out_5 : Value) (i_6 : Value) (H : Heap) : Prop :=
  W.len m_0 H fun v2 H =>
  W.bin .lss i_6 v2 H fun v3 H =>
  W.cond v3 H
  (fun H => W.lit 0 [(.int .i64 0)] 2 [] H fun v4 H =>
   W.loop (S := St [7, 8]) (fun I2 s H => f95.l2 Q m_0 s_1 i_6 out_5 I1 I2 s.1 s.2.1 H) (v4, (.int .i64 0), ()) H)
  (fun H => Q out_5 H)
def f95.w (Q : Post) (m_0 : Value) (s_1 : Value) (H : Heap) : Prop :=
  W.lit 0 [(.slice none 0 0)] 25 [] H fun v1 H =>
  W.loop (S := St [5, 6]) (fun I1 s H => f95.l1 Q m_0 s_1 I1 s.1 s.2.1 H) (v1, (.int .i64 0), ()) H
theorem f95.enter {Q : Post} {m_0 : Value} {s_1 : Value} {H : Heap} (h : f95.w Q m_0 s_1 H) : Runs Tryz.prog 95 #[m_0, s_1] H Q :=
  fn_enter (ann := [(3, [5, 6]), (7, [7, 8])]) (by kernel_rfl) Tryz.func95 rfl (by kernel_rfl) h (by kernel_rfl)

/- loop.example/g01343/spec.l01Solve -/
def f94.l2 (Q : Post) (rows_0 : Value) (q_1 : Value) (k_7 : Value) (out_6 : Value) (I1 : St [6, 7] → Heap → Prop) (I2 : St [8, 9] → Heap → Prop) (own_8 : Value) (i_9 : Value) (H : Heap) : Prop :=
  W.len rows_0 H fun v5 H =>
  W.bin .lss i_9 v5 H fun v6 H =>
  W.cond v6 H
  (fun H => W.indexAddr 1 rows_0 i_9 H fun v7 H =>
   W.get v7 H fun v8 H =>
   W.call Tryz.prog (.func (.func 79) #[] #[]) #[v8] H fun v9 H =>
   W.indexAddr 1 q_1 i_9 H fun v10 H =>
   W.get v10 H fun v11 H =>
   W.indexAddr 1 v9 k_7 H fun v12 H =>
   W.put v12 v11 H fun _ H =>
   W.lit 1 [(.slice none 0 0)] 25 [(0, 1, v9)] H fun v13 H =>
   W.append 1 25 own_8 v13 H fun v14 H =>
   W.bin .add i_9 (.int .i64 1) H fun v15 H =>
   I2 (v14, v15, ()) H)
  (fun H => W.call Tryz.prog (.func (.func 124) #[] #[]) #[own_8] H fun v16 H =>
   W.lit 1 [(.int .i64 0)] 2 [(0, 1, v16)] H fun v17 H =>
   W.append 1 2 out_6 v17 H fun v18 H =>
   W.bin .add k_7 (.int .i64 1) H fun v19 H =>
   I1 (v18, v19, ()) H)
def f94.l1 (Q : Post) (rows_0 : Value) (q_1 : Value) (I1 : St [6, 7] → Heap → Prop) (out_6 : Value) (k_7 : Value) (H : Heap) : Prop :=
  W.len rows_0 H fun v2 H =>
  W.bin .lss k_7 v2 H fun v3 H =>
  W.cond v3 H
  (fun H => W.lit 0 [(.slice none 0 0)] 25 [] H fun v4 H =>
   W.loop (S := St [8, 9]) (fun I2 s H => f94.l2 Q rows_0 q_1 k_7 out_6 I1 I2 s.1 s.2.1 H) (v4, (.int .i64 0), ()) H)
  (fun H => W.call Tryz.prog (.func (.func 124) #[] #[]) #[rows_0] H fun v20 H =>
   Q (.tuple #[out_6, v20]) H)
def f94.w (Q : Post) (rows_0 : Value) (q_1 : Value) (H : Heap) : Prop :=
  W.lit 0 [(.int .i64 0)] 2 [] H fun v1 H =>
  W.loop (S := St [6, 7]) (fun I1 s H => f94.l1 Q rows_0 q_1 I1 s.1 s.2.1 H) (v1, (.int .i64 0), ()) H
theorem f94.enter {Q : Post} {rows_0 : Value} {q_1 : Value} {H : Heap} (h : f94.w Q rows_0 q_1 H) : Runs Tryz.prog 94 #[rows_0, q_1] H Q :=
  fn_enter (ann := [(3, [6, 7]), (7, [8, 9])]) (by kernel_rfl) Tryz.func94 rfl (by kernel_rfl) h (by kernel_rfl)


theorem range_push {α : Type} {k : Nat} {f : Nat → α} {x : α} (h : f k = x) : (List.range k).map f ++ [x] = (List.range (k + 1)).map f := by
  rw [List.range_succ, List.map_append]
  simp [h]

theorem fn95 {H0 : Heap} {Q : Post} {v : Value} {m : List (List Int)} {n s : Nat} (hr : Has RSS H0 [v] m) (hsq : Sq n m) (hn : n ≤ 5) (hb : ∀ r c, (mAt m r c).natAbs ≤ 20) (hs : s < 9223372036854775808)
    (hQ : ∀ H' u, FreshG (Rd.gslice Rd.int 2) 25 H0 u (colL n m s) H' → Q u H') : Runs Tryz.prog 95 #[v, .int .i64 (s : Nat)] H0 Q := by
  have hl := hsq.1
  refine f95.enter ?_
  unfold f95.w
  refine Wl.lit0 (ty := 25) (Rd.gslice Rd.int 2) rfl ((Loc.start H0).lent hr) fun H y h => ?_
  refine W.for_rule n (fun i st H => ∃ y, st = (y, .int .i64 (i : Nat), ()) ∧ Ab.Loc H0 [.grow (Rd.gslice Rd.int 2) 25 y ((List.range i).map fun r => (List.range n).map (colE m s r)), .lent RSS [v] m] H) ⟨_, rfl, h⟩ ?_
  rintro i st H J hi ⟨y, rfl, h⟩ hJ
  refine Wl.len h (Wi.lssC (fun hlt => Wi.tru ?_) fun hge => Wi.fls ?_)
  · have hin : i < n := by omega
    have him : i < m.length := by omega
    have hrl := hsq.2 _ (List.getElem_mem him)
    refine Wl.lit0 (ty := 2) Rd.int rfl h fun H w h => ?_
    refine W.for_rule n (fun k st H => ∃ w, st = (w, .int .i64 (k : Nat), ()) ∧ Ab.Loc H0 [.grow Rd.int 2 w ((List.range k).map (colE m s i)), .grow (Rd.gslice Rd.int 2) 25 y ((List.range i).map fun r => (List.range n).map (colE m s r)), .lent RSS [v] m] H) ⟨_, rfl, h⟩ ?_
    rintro k st H J2 hk ⟨w, rfl, h⟩ hJ2
    refine Wl.len h (Wi.lssC (fun hlt2 => Wi.tru ?_) fun hge2 => Wi.fls ?_)
    · have hkn : k < n := by omega
      have hkm : k < m[i].length := by omega
      have hI : I64 ((k : Int) + 1) := by unfold I64; omega
      have eb := colE_abs (s := s) (hb i k)
      have next : ∀ (x : Int), colE m s i k = x → ∀ H u', Ab.Loc H0 [.grow Rd.int 2 u' ((List.range k).map (colE m s i) ++ [x]), .grow (Rd.gslice Rd.int 2) 25 y ((List.range i).map fun r => (List.range n).map (colE m s r)), .lent RSS [v] m] H → f95.j1 Q (.int .i64 (k : Nat)) J2 u' H := fun x hx H u' h' => by
        rw [range_push hx] at h'
        unfold f95.j1
        exact Wi.add hI (hJ2 _ _ hkn ⟨_, rfl, h'⟩)
      refine Wi.convN (by omega) (Wi.shrN hs (by omega) (Wi.and1 (Wi.eqlC (fun ht => Wi.tru ?_) fun hf => Wi.fls ?_)))
      · have ht := bit_iff.1 ht
        have ev : colE m s i k = -(mAt m i k) := by unfold colE; rw [if_pos ht]
        have e1 : m[i][k] = mAt m i k := (mAt_at him hkm).symm
        rw [ev] at eb
        refine Wl.at1 rfl h him fun w2 hw2 => Wl.atIntH hw2 hkm fun _ => ?_
        rw [e1]
        refine Wi.neg (i64A eb (by decide)) ?_
        refine Wl.pushP (r := Rd.int) (x := -(mAt m i k)) rfl rfl rfl (fun _ => ⟨rfl, rfl, i64A eb (by decide)⟩) h (by simp; omega) fun H u' h => ?_
        exact next _ ev _ _ h
      · have hf : s.testBit k = false := by
          cases hb2 : s.testBit k with
          | false => rfl
          | true => exact absurd (bit_iff.2 hb2) hf
        have ev : colE m s i k = if i = k then 1 else 0 := by unfold colE; rw [if_neg (by rw [hf]; exact Bool.false_ne_true)]
        refine Wi.eqlC (fun he => Wi.tru ?_) fun hne => Wi.fls ?_
        · rw [if_pos (by omega)] at ev
          refine Wl.pushP (r := Rd.int) (x := 1) rfl rfl rfl (fun _ => ⟨rfl, rfl, by unfold I64; omega⟩) h (by simp; omega) fun H u' h => ?_
          unfold f95.j2
          exact next _ ev _ _ h
        · rw [if_neg (by omega)] at ev
          refine Wl.pushP (r := Rd.int) (x := 0) rfl rfl rfl (fun _ => ⟨rfl, rfl, by unfold I64; omega⟩) h (by simp; omega) fun H u' h => ?_
          unfold f95.j2
          exact next _ ev _ _ h
    · have : k = n := by omega
      subst this
      refine Wl.pushGG h (by simp; omega) fun H y' h => Wi.add (by unfold I64; omega) (hJ _ _ hin ⟨y', rfl, ?_⟩)
      rw [range_push (f := fun r => (List.range k).map (colE m s r)) rfl] at h
      exact h
  · have : i = n := by omega
    subst this
    exact hQ _ _ (h.retGG (i := 0) rfl)

theorem fn94 {H0 : Heap} {Q : Post} {v vq : Value} {rows : List (List Int)} {q : List Int} {n : Nat} (hr : Has RG H0 [v] rows) (hq : Has RS H0 [vq] q) (hs : Sq n rows) (hn : n ≤ 5) (hql : q.length = n) (hb : ∀ r c, r < n → c < n → (mAt rows r c).natAbs ≤ 20) (hqb : ∀ e ∈ q, e.natAbs ≤ 100)
    (hQ : ∀ H' u, Fresh RS H0 [u] (solveL n rows q) H' → Q (.tuple #[u, .int .i64 (det n (mAt rows))]) H') : Runs Tryz.prog 94 #[v, vq] H0 Q := by
  have hl := hs.1
  refine f94.enter ?_
  unfold f94.w
  refine Wl.lit0 (ty := 2) Rd.int rfl (((Loc.start H0).lent hq).lent hr) fun H u h => ?_
  refine W.for_rule n (fun k st H => ∃ u, st = (u, .int .i64 (k : Nat), ()) ∧ Ab.Loc H0 [.grow Rd.int 2 u ((List.range k).map fun i => det n (mAt (putCol i q rows))), .lent RG [v] rows, .lent RS [vq] q] H) ⟨_, rfl, h⟩ ?_
  rintro k st H J hk ⟨u, rfl, h⟩ hJ
  refine Wl.len h (Wi.lssC (fun hlt => Wi.tru ?_) fun hge => Wi.fls ?_)
  · have hkn : k < n := by omega
    have hpsq := putCol_sq (i := k) (col := q) hs
    have hpr := putCol_rows hs hn hb hqb hkn
    refine Wl.lit0 (ty := 25) (Rd.gslice Rd.int 2) rfl h fun H y h => ?_
    refine W.for_rule n (fun i st H => ∃ y, st = (y, .int .i64 (i : Nat), ()) ∧ Ab.Loc H0 [.grow (Rd.gslice Rd.int 2) 25 y ((putCol k q rows).take i), .grow Rd.int 2 u ((List.range k).map fun i => det n (mAt (putCol i q rows))), .lent RG [v] rows, .lent RS [vq] q] H) ⟨_, rfl, h⟩ ?_
    rintro i st H J2 hi ⟨y, rfl, h⟩ hJ2
    refine Wl.len h (Wi.lssC (fun hlt2 => Wi.tru ?_) fun hge2 => Wi.fls ?_)
    · have hin : i < n := by omega
      have hir : i < rows.length := by omega
      have hrl := hs.2 _ (List.getElem_mem hir)
      have hip : i < (putCol k q rows).length := by rw [hpsq.1]; exact hin
      refine Wl.at1 rfl h hir fun w hw => Wi.call (fn79 hw.ofG1 (by omega) fun H u2 f => ?_)
      have h := h.addG f
      refine Wl.atInt h (i := i) (by omega) fun hy => Wl.setG h (by omega) hy fun H h => ?_
      refine Wl.pushGG h (by simp; omega) fun H y' h => Wi.add (by unfold I64; omega) (hJ2 _ _ hin ⟨y', rfl, ?_⟩)
      have e : rows[i].set k (q[i]'(by omega)) = (putCol k q rows)[i] := by
        simp only [putCol, List.getElem_mapIdx]
        rw [atD (by omega)]
      rw [e, ← List.take_succ_eq_append_getElem hip] at h
      exact h
    · have : i = n := by omega
      subst this
      rw [show (putCol k q rows).take i = putCol k q rows from List.take_of_length_le (by rw [hpsq.1]; exact Nat.le_refl _)] at h
      have h2 := h.asData (i := 0) rfl
      refine Wi.call (fn124 (h2.rd (cs := [y])) hpsq hn hpr fun H l => ?_)
      have h := (h2.to l).tl
      have hd := det200 hn hpr
      refine Wl.pushP (r := Rd.int) (x := det i (mAt (putCol k q rows))) rfl rfl rfl (fun _ => ⟨rfl, rfl, i64A hd (by decide)⟩) h (by simp; omega) fun H u' h => Wi.add (by unfold I64; omega) (hJ _ _ hkn ⟨u', rfl, ?_⟩)
      have h2 : Ab.Loc H0 [.grow Rd.int 2 u' ((List.range k).map (fun j => det i (mAt (putCol j q rows))) ++ [det i (mAt (putCol k q rows))]), .lent RG [v] rows, .lent RS [vq] q] H := h
      rw [range_push (f := fun j => det i (mAt (putCol j q rows))) rfl] at h2
      exact h2
  · have : k = n := by omega
    subst this
    have hrr := rows_bound hn hb
    refine Wi.call (fn124 (h.rd (cs := [v])) hs hn (fun i hi => Nat.le_trans (hrr i hi) (by decide)) fun H l => ?_)
    exact hQ _ _ (((h.to l).asData (i := 0) rfl).ret (i := 0) rfl)

/-- A point's numbers as fractions. -/
def pointF (n : Nat) (rows : List (List Int)) (q : List Int) : List Frac := (solveL n rows q).map fun x => frac x (det n (mAt rows))

end Go.Proofs.YtdchibdcfdbcpaaGreat

/-! Contracts of the reference's minors and of the least of them. No condition. -/
namespace Go.Proofs.YtdchibdcfdbcpaaGreat
open Go.Ab

/- loop.example/g01343/spec.l01Part -/
def f170.j1 (Q : Post) (i_6 : Value) (I1 : St [5, 6] → Heap → Prop) (out_5' : Value) (H : Heap) : Prop :=
  W.bin .add i_6 (.int .i64 1) H fun v8 H =>
  I1 (out_5', v8, ()) H
def f170.j2 (Q : Post) (k_8 : Value) (I2 : St [7, 8] → Heap → Prop) (row_7' : Value) (H : Heap) : Prop :=
  W.bin .add k_8 (.int .i64 1) H fun v22 H =>
  I2 (row_7', v22, ()) H
def f170.l2 (Q : Post) (m_0 : Value) (s_1 : Value) (i_6 : Value) (out_5 : Value) (I1 : St [5, 6] → Heap → Prop) (I2 : St [7, 8] → Heap → Prop) (row_7 : Value) (k_8 : Value) (H : Heap) : Prop :=
  W.len m_0 H fun v10 H =>
  W.bin .lss k_8 v10 H fun v11 H =>
  W.cond v11 H
  (fun H => W.conv .u64 k_8 H fun v12 H =>
   W.bin .shr s_1 v12 H fun v13 H =>
   W.bin .and v13 (.int .i64 1) H fun v14 H =>
   W.bin .eql v14 (.int .i64 1) H fun v15 H =>
   W.cond v15 H
   (fun H => W.indexAddr 1 m_0 i_6 H fun v16 H =>
    W.get v16 H fun v17 H =>
    W.indexAddr 1 v17 k_8 H fun v18 H =>
    W.get v18 H fun v19 H =>
    W.lit 1 [(.int .i64 0)] 2 [(0, 1, v19)] H fun v20 H =>
    W.append 1 2 row_7 v20 H fun v21 H =>
    f170.j2 Q k_8 I2 v21 H)
   (fun H => f170.j2 Q k_8 I2 row_7 H))
  (fun H => W.lit 1 [(.slice none 0 0)] 25 [(0, 1, row_7)] H fun v23 H =>
   W.append 1 25 out_5 v23 H fun v24 H =>
   f170.j1 Q i_6 I1 v24 H)
def f170.l1 (Q : Post) (m_0 : Value) (s_1 : Value) (I1 : St [5, 6] → Heap → Prop) (out_5 : Value) (i_6 : Value) (H : Heap) : Prop :=
  W.len m_0 H fun v2 H =>
  W.bin .lss i_6 v2 H fun v3 H =>
  W.cond v3 H
  (fun H => W.conv .u64 i_6 H fun v4 H =>
   W.bin .shr s_1 v4 H fun v5 H =>
   W.bin .and v5 (.int .i64 1) H fun v6 H =>
   W.bin .eql v6 (.int .i64 0) H fun v7 H =>
   W.cond v7 H
   (fun H => f170.j1 Q i_6 I1 out_5 H)
   (fun H => W.lit 0 [(.int .i64 0)] 2 [] H fun v9 H =>
    W.loop (S := St [7, 8]) (fun I2 s H => f170.l2 Q m_0 s_1 i_6 out_5 I1 I2 s.1 s.2.1 H) (v9, (.int .i64 0), ()) H))
  (fun H => Q out_5 H)
def f170.w (Q : Post) (m_0 : Value) (s_1 : Value) (H : Heap) : Prop :=
  W.lit 0 [(.slice none 0 0)] 25 [] H fun v1 H =>
  W.loop (S := St [5, 6]) (fun I1 s H => f170.l1 Q m_0 s_1 I1 s.1 s.2.1 H) (v1, (.int .i64 0), ()) H
theorem f170.enter {Q : Post} {m_0 : Value} {s_1 : Value} {H : Heap} (h : f170.w Q m_0 s_1 H) : Runs Tryz.prog 170 #[m_0, s_1] H Q :=
  fn_enter (ann := [(3, [5, 6]), (8, [7, 8])]) (by kernel_rfl) Tryz.func170 rfl (by kernel_rfl) h (by kernel_rfl)

/- loop.example/g01343/spec.l03Minor -/
def f174.w (Q : Post) (m_0 : Value) (s_1 : Value) (H : Heap) : Prop :=
  W.call Tryz.prog (.func (.func 170) #[] #[]) #[m_0, s_1] H fun v1 H =>
  W.call Tryz.prog (.func (.func 124) #[] #[]) #[v1] H fun v2 H =>
  Q v2 H
theorem f174.enter {Q : Post} {m_0 : Value} {s_1 : Value} {H : Heap} (h : f174.w Q m_0 s_1 H) : Runs Tryz.prog 174 #[m_0, s_1] H Q :=
  fn_enter (ann := []) (by kernel_rfl) Tryz.func174 rfl (by kernel_rfl) h (by kernel_rfl)

/- loop.example/g01343/spec.l03Minors -/
def f168.l1 (Q : Post) (m_0 : Value) (I1 : St [3, 4] → Heap → Prop) (out_3 : Value) (s_4 : Value) (H : Heap) : Prop :=
  W.len m_0 H fun v2 H =>
  W.conv .u64 v2 H fun v3 H =>
  W.bin .shl (.int .i64 1) v3 H fun v4 H =>
  W.bin .lss s_4 v4 H fun v5 H =>
  W.cond v5 H
  (fun H => W.call Tryz.prog (.func (.func 174) #[] #[]) #[m_0, s_4] H fun v6 H =>
   W.lit 1 [(.int .i64 0)] 2 [(0, 1, v6)] H fun v7 H =>
   W.append 1 2 out_3 v7 H fun v8 H =>
   W.bin .add s_4 (.int .i64 1) H fun v9 H =>
   I1 (v8, v9, ()) H)
  (fun H => Q out_3 H)
def f168.w (Q : Post) (m_0 : Value) (H : Heap) : Prop :=
  W.lit 0 [(.int .i64 0)] 2 [] H fun v1 H =>
  W.loop (S := St [3, 4]) (fun I1 s H => f168.l1 Q m_0 I1 s.1 s.2.1 H) (v1, (.int .i64 0), ()) H
theorem f168.enter {Q : Post} {m_0 : Value} {H : Heap} (h : f168.w Q m_0 H) : Runs Tryz.prog 168 #[m_0] H Q :=
  fn_enter (ann := [(3, [3, 4])]) (by kernel_rfl) Tryz.func168 rfl (by kernel_rfl) h (by kernel_rfl)

/- loop.example/g01343/spec.l03Least -/
def f149.l1 (Q : Post) (v1 : Value) (I1 : St [4, 5] → Heap → Prop) (out_4 : Value) (i_5 : Value) (H : Heap) : Prop :=
  W.len v1 H fun v4 H =>
  W.bin .lss i_5 v4 H fun v5 H =>
  W.cond v5 H
  (fun H => W.indexAddr 1 v1 i_5 H fun v6 H =>
   W.get v6 H fun v7 H =>
   W.min2 out_4 v7 H fun v8 H =>
   W.bin .add i_5 (.int .i64 1) H fun v9 H =>
   I1 (v8, v9, ()) H)
  (fun H => Q out_4 H)
def f149.w (Q : Post) (m_0 : Value) (H : Heap) : Prop :=
  W.call Tryz.prog (.func (.func 168) #[] #[]) #[m_0] H fun v1 H =>
  W.indexAddr 1 v1 (.int .i64 0) H fun v2 H =>
  W.get v2 H fun v3 H =>
  W.loop (S := St [4, 5]) (fun I1 s H => f149.l1 Q v1 I1 s.1 s.2.1 H) (v3, (.int .i64 1), ()) H
theorem f149.enter {Q : Post} {m_0 : Value} {H : Heap} (h : f149.w Q m_0 H) : Runs Tryz.prog 149 #[m_0] H Q :=
  fn_enter (ann := [(4, [4, 5])]) (by kernel_rfl) Tryz.func149 rfl (by kernel_rfl) h (by kernel_rfl)

/- loop.example/g01343/spec.l03Symmetric -/
def f152.l2 (Q : Post) (m_0 : Value) (i_4 : Value) (out_3 : Value) (I1 : St [3, 4] → Heap → Prop) (I2 : St [5, 6] → Heap → Prop) (row_5 : Value) (k_6 : Value) (H : Heap) : Prop :=
  W.len m_0 H fun v5 H =>
  W.bin .lss k_6 v5 H fun v6 H =>
  W.cond v6 H
  (fun H => W.indexAddr 1 m_0 i_4 H fun v7 H =>
   W.get v7 H fun v8 H =>
   W.indexAddr 1 v8 k_6 H fun v9 H =>
   W.get v9 H fun v10 H =>
   W.indexAddr 1 m_0 k_6 H fun v11 H =>
   W.get v11 H fun v12 H =>
   W.indexAddr 1 v12 i_4 H fun v13 H =>
   W.get v13 H fun v14 H =>
   W.bin .add v10 v14 H fun v15 H =>
   W.lit 1 [(.int .i64 0)] 2 [(0, 1, v15)] H fun v16 H =>
   W.append 1 2 row_5 v16 H fun v17 H =>
   W.bin .add k_6 (.int .i64 1) H fun v18 H =>
   I2 (v17, v18, ()) H)
  (fun H => W.lit 1 [(.slice none 0 0)] 25 [(0, 1, row_5)] H fun v19 H =>
   W.append 1 25 out_3 v19 H fun v20 H =>
   W.bin .add i_4 (.int .i64 1) H fun v21 H =>
   I1 (v20, v21, ()) H)
def f152.l1 (Q : Post) (m_0 : Value) (I1 : St [3, 4] → Heap → Prop) (out_3 : Value) (i_4 : Value) (H : Heap) : Prop :=
  W.len m_0 H fun v2 H =>
  W.bin .lss i_4 v2 H fun v3 H =>
  W.cond v3 H
  (fun H => W.lit 0 [(.int .i64 0)] 2 [] H fun v4 H =>
   W.loop (S := St [5, 6]) (fun I2 s H => f152.l2 Q m_0 i_4 out_3 I1 I2 s.1 s.2.1 H) (v4, (.int .i64 0), ()) H)
  (fun H => Q out_3 H)
def f152.w (Q : Post) (m_0 : Value) (H : Heap) : Prop :=
  W.lit 0 [(.slice none 0 0)] 25 [] H fun v1 H =>
  W.loop (S := St [3, 4]) (fun I1 s H => f152.l1 Q m_0 I1 s.1 s.2.1 H) (v1, (.int .i64 0), ()) H
theorem f152.enter {Q : Post} {m_0 : Value} {H : Heap} (h : f152.w Q m_0 H) : Runs Tryz.prog 152 #[m_0] H Q :=
  fn_enter (ann := [(3, [3, 4]), (7, [5, 6])]) (by kernel_rfl) Tryz.func152 rfl (by kernel_rfl) h (by kernel_rfl)


theorem fn170 {H0 : Heap} {Q : Post} {v : Value} {m : List (List Int)} {n s : Nat} (hr : Has RSS H0 [v] m) (hs : Sq n m) (hn : n ≤ 5) (hB : ∀ r c, (mAt m r c).natAbs ≤ 40) (hs2 : s < 9223372036854775808)
    (hQ : ∀ H' u, FreshG (Rd.gslice Rd.int 2) 25 H0 u (partRC n m s s) H' → Q u H') : Runs Tryz.prog 170 #[v, .int .i64 (s : Nat)] H0 Q := by
  have hl := hs.1
  refine f170.enter ?_
  unfold f170.w
  refine Wl.lit0 (ty := 25) (Rd.gslice Rd.int 2) rfl ((Loc.start H0).lent hr) fun H o h => ?_
  refine W.for_rule n (fun i st H => ∃ o, st = (o, .int .i64 (i : Nat), ()) ∧ Ab.Loc H0 [.grow (Rd.gslice Rd.int 2) 25 o ((idxs i s).map fun i => (idxs n s).map fun k => mAt m i k), .lent RSS [v] m] H) ⟨_, rfl, h⟩ ?_
  rintro i st H J hi ⟨o, rfl, h⟩ hJ
  refine Wl.len h (Wi.lssC (fun hlt => Wi.tru ?_) fun hge => Wi.fls ?_)
  · have hin : i < n := by omega
    have him : i < m.length := by omega
    have hrl := hs.2 _ (List.getElem_mem him)
    have hI : I64 ((i : Int) + 1) := by unfold I64; omega
    have il := idxs_len i s
    refine Wi.convN (by omega) (Wi.shrN hs2 (by omega) (Wi.and1 (Wi.eqlC (fun hz => Wi.tru ?_) fun hnz => Wi.fls ?_)))
    · have hb2 : s.testBit i = false := by
        cases hb : s.testBit i with
        | false => rfl
        | true => have := bit_iff.2 hb; omega
      unfold f170.j1
      refine Wi.add hI (hJ _ _ hin ⟨o, rfl, ?_⟩)
      rw [idxs_out hb2]
      exact h
    · have hb2 : s.testBit i = true := bit_iff.1 (by omega)
      refine Wl.lit0 (ty := 2) Rd.int rfl h fun H u h => ?_
      refine W.for_rule n (fun k st H => ∃ u, st = (u, .int .i64 (k : Nat), ()) ∧ Ab.Loc H0 [.grow Rd.int 2 u ((idxs k s).map fun k => mAt m i k), .grow (Rd.gslice Rd.int 2) 25 o ((idxs i s).map fun i => (idxs n s).map fun k => mAt m i k), .lent RSS [v] m] H) ⟨_, rfl, h⟩ ?_
      rintro k st H J2 hk ⟨u, rfl, h⟩ hJ2
      have hI2 : I64 ((k : Int) + 1) := by unfold I64; omega
      refine Wl.len h (Wi.lssC (fun hlt2 => Wi.tru ?_) fun hge2 => Wi.fls ?_)
      · have hkn : k < n := by omega
        have hkm : k < m[i].length := by omega
        have kl := idxs_len k s
        have e1 : m[i][k] = mAt m i k := (mAt_at him hkm).symm
        refine Wi.convN (by omega) (Wi.shrN hs2 (by omega) (Wi.and1 (Wi.eqlC (fun ho => Wi.tru ?_) fun hno => Wi.fls ?_)))
        · have hb3 := bit_iff.1 ho
          refine Wl.at1 rfl h him fun w hw => Wl.atIntH hw hkm fun hy => ?_
          rw [e1] at hy ⊢
          refine Wl.pushP (r := Rd.int) (x := mAt m i k) rfl rfl rfl (fun _ => ⟨rfl, rfl, hy⟩) h (by simp; omega) fun H u' h => ?_
          unfold f170.j2
          refine Wi.add hI2 (hJ2 _ _ hkn ⟨u', rfl, ?_⟩)
          rw [idxs_in hb3, List.map_append]
          exact h
        · have hb3 : s.testBit k = false := by
            cases hb : s.testBit k with
            | false => rfl
            | true => exact absurd (bit_iff.2 hb) hno
          unfold f170.j2
          refine Wi.add hI2 (hJ2 _ _ hkn ⟨u, rfl, ?_⟩)
          rw [idxs_out hb3]
          exact h
      · have : k = n := by omega
        subst this
        refine Wl.pushGG h (by simp; omega) fun H o' h => ?_
        unfold f170.j1
        refine Wi.add hI (hJ _ _ hin ⟨o', rfl, ?_⟩)
        rw [idxs_in hb2, List.map_append]
        exact h
  · have : i = n := by omega
    subst this
    exact hQ _ _ (h.retGG (i := 0) rfl)

theorem fn174 {H0 : Heap} {Q : Post} {v : Value} {m : List (List Int)} {n s : Nat} (hr : Has RSS H0 [v] m) (hs : Sq n m) (hn : n ≤ 5) (hB : ∀ r c, (mAt m r c).natAbs ≤ 40) (hs2 : s < 9223372036854775808)
    (hQ : ∀ H', H0.Le H' → Q (.int .i64 (minorL n m s)) H') : Runs Tryz.prog 174 #[v, .int .i64 (s : Nat)] H0 Q := by
  refine f174.enter (Wi.call (fn170 hr hs hn hB hs2 fun H u f => ?_))
  have h := ((Loc.start H0).addG f).asData (i := 0) rfl
  exact Wi.call (fn124 (h.rd (cs := [u])) (partRC_sq n m s) (Nat.le_trans (idxs_len n s) hn) (partRC_rows hn hB) fun H' l => hQ _ (h.to l).le)

theorem fn168 {H0 : Heap} {Q : Post} {v : Value} {m : List (List Int)} {n : Nat} (hr : Has RSS H0 [v] m) (hs : Sq n m) (hn : n ≤ 5) (hB : ∀ r c, (mAt m r c).natAbs ≤ 40)
    (hQ : ∀ H' u, Fresh RS H0 [u] (minorsL n m) H' → Q u H') : Runs Tryz.prog 168 #[v] H0 Q := by
  have hl := hs.1
  have h32 : 2 ^ n ≤ 32 := Nat.pow_le_pow_right (n := 2) (j := 5) (by decide) hn
  refine f168.enter ?_
  unfold f168.w
  refine Wl.lit0 (ty := 2) Rd.int rfl ((Loc.start H0).lent hr) fun H u h => ?_
  refine W.for_rule (2 ^ n) (fun x st H => ∃ u, st = (u, .int .i64 (x : Nat), ()) ∧ Ab.Loc H0 [.grow Rd.int 2 u ((List.range x).map (minorL n m)), .lent RSS [v] m] H) ⟨_, rfl, h⟩ ?_
  rintro x st H J hx ⟨u, rfl, h⟩ hJ
  refine Wl.len h (Wi.convN (by omega) (Wi.shl1 (by omega) ?_))
  rw [hl]
  refine Wi.lssC (fun hlt => Wi.tru ?_) fun hge => Wi.fls ?_
  · have hxn : x < 2 ^ n := Int.ofNat_lt.1 hlt
    refine Wi.call (fn174 (h.rd (cs := [v])) hs hn hB (by omega) fun H l => ?_)
    have h := h.to l
    refine Wl.pushP (r := Rd.int) (x := minorL n m x) rfl rfl rfl (fun _ => ⟨rfl, rfl, i64A (minorL_abs hn hB x) (by decide)⟩) h (by simp; omega) fun H u' h => Wi.add (i64N (q := x + 1) (m := 32) (by omega) (by decide)) (hJ _ _ hxn ⟨u', rfl, ?_⟩)
    have h2 : Ab.Loc H0 [.grow Rd.int 2 u' ((List.range x).map (minorL n m) ++ [minorL n m x]), .lent RSS [v] m] H := h
    rw [range_push rfl] at h2
    exact h2
  · have hge' : ¬ x < 2 ^ n := fun g => hge (Int.ofNat_lt.2 g)
    have : x = 2 ^ n := by omega
    subst this
    exact hQ _ _ ((h.asData (i := 0) rfl).ret (i := 0) rfl)

theorem fn149 {H0 : Heap} {Q : Post} {v : Value} {m : List (List Int)} {n : Nat} (hr : Has RSS H0 [v] m) (hs : Sq n m) (hn : n ≤ 5) (hB : ∀ r c, (mAt m r c).natAbs ≤ 40)
    (hQ : ∀ H' r, H0.Le H' → r ∈ minorsL n m → (∀ e ∈ minorsL n m, r ≤ e) → Q (.int .i64 r) H') : Runs Tryz.prog 149 #[v] H0 Q := by
  have h0 : 0 < (minorsL n m).length := by simp [minorsL]; exact Nat.pow_pos (by decide)
  refine f149.enter (Wi.call (fn168 hr hs hn hB fun H u f => ?_))
  have h := (Loc.start H0).add f
  refine Wl.atInt h (i := 0) h0 fun _ => ?_
  unfold f149.l1
  exact min_loop h h0 fun r h1 h2 => hQ _ r h.le h1 h2

theorem fn152 {H0 : Heap} {Q : Post} {v : Value} {m : List (List Int)} {n : Nat} (hr : Has RSS H0 [v] m) (hs : Sq n m) (hn : n ≤ 5) (hB : ∀ r c, (mAt m r c).natAbs ≤ 20)
    (hQ : ∀ H' u, FreshG (Rd.gslice Rd.int 2) 25 H0 u (symL n m) H' → Q u H') : Runs Tryz.prog 152 #[v] H0 Q := by
  have hl := hs.1
  refine f152.enter ?_
  unfold f152.w
  refine Wl.lit0 (ty := 25) (Rd.gslice Rd.int 2) rfl ((Loc.start H0).lent hr) fun H o h => ?_
  refine W.for_rule n (fun i st H => ∃ o, st = (o, .int .i64 (i : Nat), ()) ∧ Ab.Loc H0 [.grow (Rd.gslice Rd.int 2) 25 o ((List.range i).map fun i => (List.range n).map fun k => mAt m i k + mAt m k i), .lent RSS [v] m] H) ⟨_, rfl, h⟩ ?_
  rintro i st H J hi ⟨o, rfl, h⟩ hJ
  refine Wl.len h (Wi.lssC (fun hlt => Wi.tru ?_) fun hge => Wi.fls ?_)
  · have hin : i < n := by omega
    have him : i < m.length := by omega
    have hrl := hs.2 _ (List.getElem_mem him)
    refine Wl.lit0 (ty := 2) Rd.int rfl h fun H u h => ?_
    refine W.for_rule n (fun k st H => ∃ u, st = (u, .int .i64 (k : Nat), ()) ∧ Ab.Loc H0 [.grow Rd.int 2 u ((List.range k).map fun k => mAt m i k + mAt m k i), .grow (Rd.gslice Rd.int 2) 25 o ((List.range i).map fun i => (List.range n).map fun k => mAt m i k + mAt m k i), .lent RSS [v] m] H) ⟨_, rfl, h⟩ ?_
    rintro k st H J2 hk ⟨u, rfl, h⟩ hJ2
    refine Wl.len h (Wi.lssC (fun hlt2 => Wi.tru ?_) fun hge2 => Wi.fls ?_)
    · have hkn : k < n := by omega
      have hkm : k < m[i].length := by omega
      have hkl : k < m.length := by omega
      have hik : i < m[k].length := by rw [hs.2 _ (List.getElem_mem hkl)]; exact hin
      have b1 := hB i k
      have b2 := hB k i
      have hI : I64 (mAt m i k + mAt m k i) := by unfold I64; omega
      refine Wl.at1 rfl h him fun w hw => Wl.atIntH hw hkm fun _ => Wl.at1 rfl h hkl fun w2 hw2 => Wl.atIntH hw2 hik fun _ => ?_
      rw [show m[i][k] = mAt m i k from (mAt_at him hkm).symm, show m[k][i] = mAt m k i from (mAt_at hkl hik).symm]
      refine Wi.add hI (Wl.pushP (r := Rd.int) (x := mAt m i k + mAt m k i) rfl rfl rfl (fun _ => ⟨rfl, rfl, hI⟩) h (by simp; omega) fun H u' h => Wi.add (by unfold I64; omega) (hJ2 _ _ hkn ⟨u', rfl, ?_⟩))
      rw [← range_push (f := fun k => mAt m i k + mAt m k i) rfl]
      exact h
    · have : k = n := by omega
      subst this
      refine Wl.pushGG h (by simp; omega) fun H o' h => Wi.add (by unfold I64; omega) (hJ _ _ hin ⟨o', rfl, ?_⟩)
      rw [← range_push (f := fun i => (List.range k).map fun k => mAt m i k + mAt m k i) rfl]
      exact h
  · have : i = n := by omega
    subst this
    exact hQ _ _ (h.retGG (i := 0) rfl)

end Go.Proofs.YtdchibdcfdbcpaaGreat

/-! The contract of the reference's IsProgram. No condition. -/
namespace Go.Proofs.YtdchibdcfdbcpaaGreat
open Go.Ab

/- loop.example/g01343/spec.l09Is -/
def f54.l2 (Q : Post) (v4 : Value) (v1 : Value) (i_5 : Value) (I1 : St [5] → Heap → Prop) (I2 : St [6] → Heap → Prop) (k_6 : Value) (H : Heap) : Prop :=
  W.bin .lss k_6 v4 H fun v41 H =>
  W.cond v41 H
  (fun H => W.fieldAddr 0 v1 H fun v42 H =>
   W.get v42 H fun v43 H =>
   W.indexAddr 1 v43 i_5 H fun v44 H =>
   W.get v44 H fun v45 H =>
   W.indexAddr 1 v45 k_6 H fun v46 H =>
   W.get v46 H fun v47 H =>
   W.call Tryz.prog (.func (.func 77) #[] #[]) #[v47, (.int .i64 (-20)), (.int .i64 20)] H fun v48 H =>
   W.un .not v48 H fun v49 H =>
   W.cond v49 H
   (fun H => Q (.bool false) H)
   (fun H => W.bin .add k_6 (.int .i64 1) H fun v50 H =>
    I2 (v50, ()) H))
  (fun H => W.bin .add i_5 (.int .i64 1) H fun v51 H =>
   I1 (v51, ()) H)
def f54.l4 (Q : Post) (i_7 : Value) (v1 : Value) (I3 : St [7] → Heap → Prop) (I4 : St [8] → Heap → Prop) (k_8 : Value) (H : Heap) : Prop :=
  W.bin .lss k_8 i_7 H fun v53 H =>
  W.cond v53 H
  (fun H => W.fieldAddr 0 v1 H fun v54 H =>
   W.get v54 H fun v55 H =>
   W.indexAddr 1 v55 i_7 H fun v56 H =>
   W.get v56 H fun v57 H =>
   W.indexAddr 1 v57 k_8 H fun v58 H =>
   W.get v58 H fun v59 H =>
   W.fieldAddr 0 v1 H fun v60 H =>
   W.get v60 H fun v61 H =>
   W.indexAddr 1 v61 k_8 H fun v62 H =>
   W.get v62 H fun v63 H =>
   W.indexAddr 1 v63 i_7 H fun v64 H =>
   W.get v64 H fun v65 H =>
   W.bin .neq v59 v65 H fun v66 H =>
   W.cond v66 H
   (fun H => Q (.bool false) H)
   (fun H => W.bin .add k_8 (.int .i64 1) H fun v67 H =>
    I4 (v67, ()) H))
  (fun H => W.bin .add i_7 (.int .i64 1) H fun v68 H =>
   I3 (v68, ()) H)
def f54.l6 (Q : Post) (v4 : Value) (v1 : Value) (j_9 : Value) (I5 : St [9] → Heap → Prop) (I6 : St [10] → Heap → Prop) (k_10 : Value) (H : Heap) : Prop :=
  W.bin .lss k_10 v4 H fun v84 H =>
  W.cond v84 H
  (fun H => W.fieldAddr 2 v1 H fun v85 H =>
   W.get v85 H fun v86 H =>
   W.indexAddr 1 v86 j_9 H fun v87 H =>
   W.get v87 H fun v88 H =>
   W.indexAddr 1 v88 k_10 H fun v89 H =>
   W.get v89 H fun v90 H =>
   W.call Tryz.prog (.func (.func 77) #[] #[]) #[v90, (.int .i64 (-20)), (.int .i64 20)] H fun v91 H =>
   W.un .not v91 H fun v92 H =>
   W.cond v92 H
   (fun H => Q (.bool false) H)
   (fun H => W.bin .add k_10 (.int .i64 1) H fun v93 H =>
    I6 (v93, ()) H))
  (fun H => W.bin .add j_9 (.int .i64 1) H fun v94 H =>
   I5 (v94, ()) H)
def f54.l5 (Q : Post) (v7 : Value) (v1 : Value) (v4 : Value) (I5 : St [9] → Heap → Prop) (j_9 : Value) (H : Heap) : Prop :=
  W.bin .lss j_9 v7 H fun v69 H =>
  W.cond v69 H
  (fun H => W.fieldAddr 2 v1 H fun v70 H =>
   W.get v70 H fun v71 H =>
   W.indexAddr 1 v71 j_9 H fun v72 H =>
   W.get v72 H fun v73 H =>
   W.len v73 H fun v74 H =>
   W.bin .neq v74 v4 H fun v75 H =>
   W.guarded v75 false (fun H k => W.fieldAddr 3 v1 H k) H fun v76 H =>
   W.guarded v75 false (fun H k => W.get v76 H k) H fun v77 H =>
   W.guarded v75 false (fun H k => k j_9 H) H fun v78 H =>
   W.guarded v75 false (fun H k => W.indexAddr 1 v77 v78 H k) H fun v79 H =>
   W.guarded v75 false (fun H k => W.get v79 H k) H fun v80 H =>
   W.guarded v75 false (fun H k => W.call Tryz.prog (.func (.func 77) #[] #[]) #[v80, (.int .i64 (-100)), (.int .i64 100)] H k) H fun v81 H =>
   W.guarded v75 false (fun H k => W.un .not v81 H k) H fun v82 H =>
   W.pick v75 (.bool true) v82 H fun v83 H =>
   W.cond v83 H
   (fun H => Q (.bool false) H)
   (fun H => W.loop (S := St [10]) (fun I6 s H => f54.l6 Q v4 v1 j_9 I5 I6 s.1 H) ((.int .i64 0), ()) H))
  (fun H => Q (.bool true) H)
def f54.l3 (Q : Post) (v4 : Value) (v1 : Value) (v7 : Value) (I3 : St [7] → Heap → Prop) (i_7 : Value) (H : Heap) : Prop :=
  W.bin .lss i_7 v4 H fun v52 H =>
  W.cond v52 H
  (fun H => W.loop (S := St [8]) (fun I4 s H => f54.l4 Q i_7 v1 I3 I4 s.1 H) ((.int .i64 0), ()) H)
  (fun H => W.loop (S := St [9]) (fun I5 s H => f54.l5 Q v7 v1 v4 I5 s.1 H) ((.int .i64 0), ()) H)
def f54.l1 (Q : Post) (v4 : Value) (v1 : Value) (v7 : Value) (I1 : St [5] → Heap → Prop) (i_5 : Value) (H : Heap) : Prop :=
  W.bin .lss i_5 v4 H fun v26 H =>
  W.cond v26 H
  (fun H => W.fieldAddr 0 v1 H fun v27 H =>
   W.get v27 H fun v28 H =>
   W.indexAddr 1 v28 i_5 H fun v29 H =>
   W.get v29 H fun v30 H =>
   W.len v30 H fun v31 H =>
   W.bin .neq v31 v4 H fun v32 H =>
   W.guarded v32 false (fun H k => W.fieldAddr 1 v1 H k) H fun v33 H =>
   W.guarded v32 false (fun H k => W.get v33 H k) H fun v34 H =>
   W.guarded v32 false (fun H k => k i_5 H) H fun v35 H =>
   W.guarded v32 false (fun H k => W.indexAddr 1 v34 v35 H k) H fun v36 H =>
   W.guarded v32 false (fun H k => W.get v36 H k) H fun v37 H =>
   W.guarded v32 false (fun H k => W.call Tryz.prog (.func (.func 77) #[] #[]) #[v37, (.int .i64 (-100)), (.int .i64 100)] H k) H fun v38 H =>
   W.guarded v32 false (fun H k => W.un .not v38 H k) H fun v39 H =>
   W.pick v32 (.bool true) v39 H fun v40 H =>
   W.cond v40 H
   (fun H => Q (.bool false) H)
   (fun H => W.loop (S := St [6]) (fun I2 s H => f54.l2 Q v4 v1 i_5 I1 I2 s.1 H) ((.int .i64 0), ()) H))
  (fun H => W.loop (S := St [7]) (fun I3 s H => f54.l3 Q v4 v1 v7 I3 s.1 H) ((.int .i64 0), ()) H)
def f54.w (Q : Post) (p_0 : Value) (H : Heap) : Prop :=
  W.box p_0 27 H fun v1 H =>
  W.fieldAddr 1 v1 H fun v2 H =>
  W.get v2 H fun v3 H =>
  W.len v3 H fun v4 H =>
  W.fieldAddr 3 v1 H fun v5 H =>
  W.get v5 H fun v6 H =>
  W.len v6 H fun v7 H =>
  W.bin .lss v4 (.int .i64 1) H fun v8 H =>
  W.guarded v8 false (fun H k => k v4 H) H fun v9 H =>
  W.guarded v8 false (fun H k => k v7 H) H fun v10 H =>
  W.guarded v8 false (fun H k => W.bin .add v9 v10 H k) H fun v11 H =>
  W.guarded v8 false (fun H k => W.bin .gtr v11 (.int .i64 5) H k) H fun v12 H =>
  W.pick v8 (.bool true) v12 H fun v13 H =>
  W.guarded v13 false (fun H k => W.fieldAddr 0 v1 H k) H fun v14 H =>
  W.guarded v13 false (fun H k => W.get v14 H k) H fun v15 H =>
  W.guarded v13 false (fun H k => W.len v15 H k) H fun v16 H =>
  W.guarded v13 false (fun H k => k v4 H) H fun v17 H =>
  W.guarded v13 false (fun H k => W.bin .neq v16 v17 H k) H fun v18 H =>
  W.pick v13 (.bool true) v18 H fun v19 H =>
  W.guarded v19 false (fun H k => W.fieldAddr 2 v1 H k) H fun v20 H =>
  W.guarded v19 false (fun H k => W.get v20 H k) H fun v21 H =>
  W.guarded v19 false (fun H k => W.len v21 H k) H fun v22 H =>
  W.guarded v19 false (fun H k => k v7 H) H fun v23 H =>
  W.guarded v19 false (fun H k => W.bin .neq v22 v23 H k) H fun v24 H =>
  W.pick v19 (.bool true) v24 H fun v25 H =>
  W.cond v25 H
  (fun H => Q (.bool false) H)
  (fun H => W.loop (S := St [5]) (fun I1 s H => f54.l1 Q v4 v1 v7 I1 s.1 H) ((.int .i64 0), ()) H)
theorem f54.enter {Q : Post} {p_0 : Value} {H : Heap} (h : f54.w Q p_0 H) : Runs Tryz.prog 54 #[p_0] H Q :=
  fn_enter (ann := [(5, [5]), (10, [6]), (15, [7]), (18, [8]), (23, [9]), (28, [10])]) (by kernel_rfl) Tryz.func54 rfl (by kernel_rfl) h (by kernel_rfl)

/- loop.example/g01343/spec.IsProgram -/
def f29.w (Q : Post) (p_0 : Value) (H : Heap) : Prop :=
  W.box p_0 27 H fun v1 H =>
  W.getN 4 v1 H fun v2 H =>
  W.call Tryz.prog (.func (.func 54) #[] #[]) #[v2] H fun v3 H =>
  Q v3 H
theorem f29.enter {Q : Post} {p_0 : Value} {H : Heap} (h : f29.w Q p_0 H) : Runs Tryz.prog 29 #[p_0] H Q :=
  fn_enter (ann := []) (by kernel_rfl) Tryz.func29 rfl (by kernel_rfl) h (by kernel_rfl)


theorem fn54 {H0 : Heap} {Q : Post} {cs : List Value} {p : Prg} (hr : Has RPrg H0 cs p) (hw : wPrg p ≤ 1048576) (hQ : ∀ H' b, H0.Le H' → (b = true ↔ IsPrg p) → Q (.bool b) H') : Runs Tryz.prog 54 #[.agg cs.toArray] H0 Q := by
  obtain ⟨u1, u2, u3, u4, rfl, r1, r2, r3, r4⟩ := hasPrg hr
  simp only [szp, wl] at hw
  have hF : ∀ H', H0.Le H' → ¬ IsPrg p → Q (.bool false) H' := fun H' l h => hQ H' _ l ⟨fun e => Bool.noConfusion e, fun g => absurd g h⟩
  refine f54.enter ?_
  unfold f54.w
  have h := ((((Loc.start H0).lent r1).lent r2).lent r3).lent r4
  refine Wl.box h fun H b h => Wi.fieldAddr0 (Wl.get h rfl (Wl.len h (Wi.fieldAddr0 (Wl.get h rfl (Wl.len h (Wi.lssC (fun hlt => ?_) fun h1 => ?_))))))
  · exact hF _ h.le fun g => by have := g.n1; omega
  simp only [g4]
  refine Wi.add (by unfold I64; omega) (Wi.gtrC (fun hgt => ?_) fun h2 => ?_)
  · exact hF _ h.le fun g => by have := g.nm; omega
  simp only [g4, g6]
  refine Wi.fieldAddr0 (Wl.get h rfl (Wl.len h (Wi.neqC (fun hne => ?_) fun h3 => ?_)))
  · exact hF _ h.le fun g => by have := g.dl; omega
  simp only [g4, g6]
  refine Wi.fieldAddr0 (Wl.get h rfl (Wl.len h (Wi.neqC (fun hne => ?_) fun h4 => ?_)))
  · exact hF _ h.le fun g => by have := g.al; omega
  simp only [g6, g8]
  -- the rows of D, and C
  refine W.all_rule p.2.1.length (fun i => decide ((p.1.getD i []).length = p.2.1.length) && inR (-100) 100 (p.2.1.getD i 0) && allUp 20 (p.1.getD i [])) (fun i H1 J hi _ l hJ => ?_) fun H1 J hall l => ?_
  · have h := h.to l
    have hi1 : i < p.1.length := by omega
    have e1 : p.1.getD i [] = p.1[i] := by simp [List.getD_eq_getElem?_getD, List.getElem?_eq_getElem hi1]
    have e2 : p.2.1.getD i 0 = p.2.1[i] := by simp [List.getD_eq_getElem?_getD, List.getElem?_eq_getElem hi]
    refine Wi.lssC (fun _ => Wi.tru (Wi.fieldAddr0 (Wl.get h rfl (Wl.at1 rfl h hi1 fun w hw' => Wl.lenH hw' (Wi.neqC (fun hne => ?_) fun heq => ?_))))) fun h => by omega
    · exact hF _ h.le fun g => hne (by rw [(g.d _ (List.getElem_mem hi1)).1])
    simp only [g4]
    refine Wi.fieldAddr0 (Wl.get h rfl (Wl.atInt h hi fun _ => Wi.call (fn77 ?_)))
    cases hc : inR (-100) 100 p.2.1[i] with
    | false => exact hF _ h.le fun g => by rw [inR_iff.2 (g.c _ (List.getElem_mem hi))] at hc; cases hc
    | true =>
    simp only [g4, g6, g8, g9]
    refine W.all_rule p.2.1.length (fun k => inR (-20) 20 (p.1[i].getD k 0)) (fun k H2 J2 hk _ l2 hJ2 => ?_) fun H2 J2 hall2 l2 => ?_
    · have h := h.to l2
      have hk1 : k < p.1[i].length := by omega
      have e3 : p.1[i].getD k 0 = p.1[i][k] := by simp [List.getD_eq_getElem?_getD, List.getElem?_eq_getElem hk1]
      refine Wi.lssC (fun _ => Wi.tru (Wi.fieldAddr0 (Wl.get h rfl (Wl.at1 rfl h hi1 fun w2 hw2 => Wl.atIntH hw2 hk1 fun _ => Wi.call (fn77 ?_))))) fun h => by omega
      cases hx : inR (-20) 20 p.1[i][k] with
      | false => exact hF _ h.le fun g => by rw [inR_iff.2 ((g.d _ (List.getElem_mem hi1)).2 _ (List.getElem_mem hk1))] at hx; cases hx
      | true =>
      simp only [g8, g9]
      refine Wi.add (by unfold I64; omega) (hJ2 ?_ H2 (.refl _))
      rw [e3]
      exact hx
    · refine Wi.lssC (fun h => by omega) fun _ => Wi.fls (Wi.add (by unfold I64; omega) (hJ ?_ H2 l2))
      rw [e1, e2, hc]
      have : p.1[i].length = p.2.1.length := by omega
      simp only [this, decide_true, Bool.true_and]
      refine allUp_iff.2 fun x hx => ?_
      obtain ⟨k, hk, rfl⟩ := List.mem_iff_getElem.1 hx
      have := hall2 k (by omega)
      rw [List.getD_eq_getElem?_getD, List.getElem?_eq_getElem hk, Option.getD_some] at this
      exact inR_iff.1 this
  refine Wi.lssC (fun h => by omega) fun _ => Wi.fls ?_
  have h := h.to l
  have hrow : ∀ i (hi : i < p.1.length), p.1[i].length = p.2.1.length ∧ ∀ x ∈ p.1[i], -20 ≤ x ∧ x ≤ 20 := fun i hi => by
    have := hall i (by omega)
    simp only [List.getD_eq_getElem?_getD, List.getElem?_eq_getElem hi, Option.getD_some, Bool.and_eq_true, decide_eq_true_eq] at this
    exact ⟨this.1.1, allUp_iff.1 this.2⟩
  have hC : ∀ x ∈ p.2.1, -100 ≤ x ∧ x ≤ 100 := fun x hx => by
    obtain ⟨i, hi, rfl⟩ := List.mem_iff_getElem.1 hx
    have := hall i hi
    simp only [List.getD_eq_getElem?_getD, List.getElem?_eq_getElem hi, Option.getD_some, Bool.and_eq_true, decide_eq_true_eq] at this
    exact inR_iff.1 this.1.2
  clear hall
  -- symmetric
  refine W.all_rule p.2.1.length (fun i => allN i fun k => decide ((p.1.getD i []).getD k 0 = (p.1.getD k []).getD i 0)) (fun i H1 J hi _ l hJ => ?_) fun H1 J hall l => ?_
  · have h := h.to l
    have hi1 : i < p.1.length := by omega
    refine Wi.lssC (fun _ => Wi.tru ?_) fun h => by omega
    refine W.all_rule i (fun k => decide ((p.1.getD i []).getD k 0 = (p.1.getD k []).getD i 0)) (fun k H2 J2 hk _ l2 hJ2 => ?_) fun H2 J2 hall2 l2 => ?_
    · have h := h.to l2
      have hk1 : k < p.1.length := by omega
      have hi2 : i < p.1[k].length := by rw [(hrow k hk1).1]; omega
      have hk2 : k < p.1[i].length := by rw [(hrow i hi1).1]; omega
      refine Wi.lssC (fun _ => Wi.tru (Wi.fieldAddr0 (Wl.get h rfl (Wl.at1 rfl h hi1 fun w1 hw1 => Wl.atIntH hw1 hk2 fun _ => Wi.fieldAddr0 (Wl.get h rfl (Wl.at1 rfl h hk1 fun w2 hw2 => Wl.atIntH hw2 hi2 fun _ => Wi.neqC (fun hne => ?_) fun heq => ?_)))))) fun h => by omega
      · exact hF _ h.le fun g => hne (g.sym i k hi1 hk1 hk2 hi2)
      · simp only [g8]
        refine Wi.add (by unfold I64; omega) (hJ2 ?_ H2 (.refl _))
        simpa [List.getD_eq_getElem?_getD, List.getElem?_eq_getElem hi1, List.getElem?_eq_getElem hk1, List.getElem?_eq_getElem hk2, List.getElem?_eq_getElem hi2] using heq
    · exact Wi.lssC (fun h => by omega) fun _ => Wi.fls (Wi.add (by unfold I64; omega) (hJ (allN_true hall2) H2 l2))
  refine Wi.lssC (fun h => by omega) fun _ => Wi.fls ?_
  have h := h.to l
  have hsym0 : ∀ i k (hi : i < p.1.length) (hk : k < p.1.length) (h1 : k < p.1[i].length) (h2 : i < p.1[k].length), k < i → p.1[i][k] = p.1[k][i] := fun i k hi hk h1 h2 hlt => by
    have := allN_iff.1 (hall i (by omega)) k hlt
    simpa [List.getD_eq_getElem?_getD, List.getElem?_eq_getElem hi, List.getElem?_eq_getElem hk, List.getElem?_eq_getElem h1, List.getElem?_eq_getElem h2] using this
  clear hall
  -- the rows of A, and B
  refine W.all_rule p.2.2.2.length (fun j => decide ((p.2.2.1.getD j []).length = p.2.1.length) && inR (-100) 100 (p.2.2.2.getD j 0) && allUp 20 (p.2.2.1.getD j [])) (fun i H1 J hi _ l hJ => ?_) fun H1 J hall l => ?_
  · have h := h.to l
    have hi1 : i < p.2.2.1.length := by omega
    have e1 : p.2.2.1.getD i [] = p.2.2.1[i] := by simp [List.getD_eq_getElem?_getD, List.getElem?_eq_getElem hi1]
    have e2 : p.2.2.2.getD i 0 = p.2.2.2[i] := by simp [List.getD_eq_getElem?_getD, List.getElem?_eq_getElem hi]
    refine Wi.lssC (fun _ => Wi.tru (Wi.fieldAddr0 (Wl.get h rfl (Wl.at1 rfl h hi1 fun w hw' => Wl.lenH hw' (Wi.neqC (fun hne => ?_) fun heq => ?_))))) fun h => by omega
    · exact hF _ h.le fun g => hne (by rw [(g.a _ (List.getElem_mem hi1)).1])
    simp only [g4]
    refine Wi.fieldAddr0 (Wl.get h rfl (Wl.atInt h hi fun _ => Wi.call (fn77 ?_)))
    cases hc : inR (-100) 100 p.2.2.2[i] with
    | false => exact hF _ h.le fun g => by rw [inR_iff.2 (g.b _ (List.getElem_mem hi))] at hc; cases hc
    | true =>
    simp only [g4, g6, g8, g9]
    refine W.all_rule p.2.1.length (fun k => inR (-20) 20 (p.2.2.1[i].getD k 0)) (fun k H2 J2 hk _ l2 hJ2 => ?_) fun H2 J2 hall2 l2 => ?_
    · have h := h.to l2
      have hk1 : k < p.2.2.1[i].length := by omega
      have e3 : p.2.2.1[i].getD k 0 = p.2.2.1[i][k] := by simp [List.getD_eq_getElem?_getD, List.getElem?_eq_getElem hk1]
      refine Wi.lssC (fun _ => Wi.tru (Wi.fieldAddr0 (Wl.get h rfl (Wl.at1 rfl h hi1 fun w2 hw2 => Wl.atIntH hw2 hk1 fun _ => Wi.call (fn77 ?_))))) fun h => by omega
      cases hx : inR (-20) 20 p.2.2.1[i][k] with
      | false => exact hF _ h.le fun g => by rw [inR_iff.2 ((g.a _ (List.getElem_mem hi1)).2 _ (List.getElem_mem hk1))] at hx; cases hx
      | true =>
      simp only [g8, g9]
      refine Wi.add (by unfold I64; omega) (hJ2 ?_ H2 (.refl _))
      rw [e3]
      exact hx
    · refine Wi.lssC (fun h => by omega) fun _ => Wi.fls (Wi.add (by unfold I64; omega) (hJ ?_ H2 l2))
      rw [e1, e2, hc]
      have : p.2.2.1[i].length = p.2.1.length := by omega
      simp only [this, decide_true, Bool.true_and]
      refine allUp_iff.2 fun x hx => ?_
      obtain ⟨k, hk, rfl⟩ := List.mem_iff_getElem.1 hx
      have := hall2 k (by omega)
      rw [List.getD_eq_getElem?_getD, List.getElem?_eq_getElem hk, Option.getD_some] at this
      exact inR_iff.1 this
  refine Wi.lssC (fun h => by omega) fun _ => Wi.fls (hQ _ _ (h.le.trans l) ⟨fun _ => ?_, fun _ => rfl⟩)
  refine ⟨by omega, by omega, by omega, by omega, fun r hr => ?_, hC, fun x hx => ?_, fun r hr => ?_, fun i k hi hk h1 h2 => ?_⟩
  · obtain ⟨i, hi, rfl⟩ := List.mem_iff_getElem.1 hr
    exact hrow i hi
  · obtain ⟨i, hi, rfl⟩ := List.mem_iff_getElem.1 hx
    have := hall i hi
    simp only [List.getD_eq_getElem?_getD, List.getElem?_eq_getElem hi, Option.getD_some, Bool.and_eq_true, decide_eq_true_eq] at this
    exact inR_iff.1 this.1.2
  · obtain ⟨i, hi, rfl⟩ := List.mem_iff_getElem.1 hr
    have := hall i (by omega)
    simp only [List.getD_eq_getElem?_getD, List.getElem?_eq_getElem hi, Option.getD_some, Bool.and_eq_true, decide_eq_true_eq] at this
    exact ⟨this.1.1, allUp_iff.1 this.2⟩
  · rcases Nat.lt_trichotomy i k with hlt | rfl | hlt
    · exact (hsym0 k i hk hi h2 h1 hlt).symm
    · rfl
    · exact hsym0 i k hi hk h1 h2 hlt

theorem fn29 {H0 : Heap} {Q : Post} {cs : List Value} {p : Prg} (hr : Has RPrg H0 cs p) (hw : wPrg p ≤ 1048576) (hQ : ∀ H' b, H0.Le H' → (b = true ↔ IsPrg p) → Q (.bool b) H') : Runs Tryz.prog 29 #[.agg cs.toArray] H0 Q :=
  f29.enter (Wl.box ((Loc.start H0).lent hr) fun H b h => Wl.getA h (let ⟨_, h⟩ := hr; RPrg.len h) (Wi.call (fn54 h.rd hw fun H' b l hb => hQ H' b (h.le.trans l) hb)))

end Go.Proofs.YtdchibdcfdbcpaaGreat

/-! The contracts of IsConvex, the program's and the reference's. No condition. -/
namespace Go.Proofs.YtdchibdcfdbcpaaGreat
open Go.Ab

/- loop.example/g01343/impl.IsConvex -/
def f25.w (Q : Post) (p_0 : Value) (H : Heap) : Prop :=
  W.box p_0 27 H fun v1 H =>
  W.getN 4 v1 H fun v2 H =>
  W.call Tryz.prog (.func (.func 28) #[] #[]) #[v2] H fun v3 H =>
  W.un .not v3 H fun v4 H =>
  W.cond v4 H
  (fun H => Q (.tuple #[(.bool false), (.int .i64 1)]) H)
  (fun H => W.getN 4 v1 H fun v5 H =>
   W.call Tryz.prog (.func (.func 59) #[] #[]) #[v5] H fun v6 H =>
   Q (.tuple #[v6, (.int .i64 0)]) H)
theorem f25.enter {Q : Post} {p_0 : Value} {H : Heap} (h : f25.w Q p_0 H) : Runs Tryz.prog 25 #[p_0] H Q :=
  fn_enter (ann := []) (by kernel_rfl) Tryz.func25 rfl (by kernel_rfl) h (by kernel_rfl)

/- (loop.example/g01343/impl.Program).isConvex -/
def f59.w (Q : Post) (p_0 : Value) (H : Heap) : Prop :=
  W.box p_0 27 H fun v1 H =>
  W.fieldAddr 0 v1 H fun v2 H =>
  W.get v2 H fun v3 H =>
  W.call Tryz.prog (.func (.func 106) #[] #[]) #[v3, (.int .i64 6)] H fun v4 H =>
  Q v4 H
theorem f59.enter {Q : Post} {p_0 : Value} {H : Heap} (h : f59.w Q p_0 H) : Runs Tryz.prog 59 #[p_0] H Q :=
  fn_enter (ann := []) (by kernel_rfl) Tryz.func59 rfl (by kernel_rfl) h (by kernel_rfl)

/- loop.example/g01343/impl.isOfKind -/
def f106.w (Q : Post) (m_0 : Value) (kind_1 : Value) (H : Heap) : Prop :=
  W.box m_0 24 H fun v1 H =>
  W.bin .eql kind_1 (.int .i64 0) H fun v2 H =>
  W.cond v2 H
  (fun H => W.get v1 H fun v3 H =>
   W.call Tryz.prog (.func (.func 133) #[] #[]) #[v3, (.int .i64 1)] H fun v4 H =>
   Q v4 H)
  (fun H => W.bin .eql kind_1 (.int .i64 1) H fun v5 H =>
   W.cond v5 H
   (fun H => W.get v1 H fun v6 H =>
    W.call Tryz.prog (.func (.func 133) #[] #[]) #[v6, (.int .i64 0)] H fun v7 H =>
    Q v7 H)
   (fun H => W.bin .eql kind_1 (.int .i64 2) H fun v8 H =>
    W.cond v8 H
    (fun H => W.get v1 H fun v9 H =>
     W.call Tryz.prog (.func (.func 134) #[] #[]) #[v9] H fun v10 H =>
     Q v10 H)
    (fun H => W.bin .eql kind_1 (.int .i64 3) H fun v11 H =>
     W.cond v11 H
     (fun H => W.get v1 H fun v12 H =>
      W.call Tryz.prog (.func (.func 135) #[] #[]) #[v12] H fun v13 H =>
      Q v13 H)
     (fun H => W.bin .eql kind_1 (.int .i64 4) H fun v14 H =>
      W.cond v14 H
      (fun H => W.get v1 H fun v15 H =>
       W.call Tryz.prog (.func (.func 136) #[] #[]) #[v15] H fun v16 H =>
       W.call Tryz.prog (.func (.func 135) #[] #[]) #[v16] H fun v17 H =>
       Q v17 H)
      (fun H => W.bin .eql kind_1 (.int .i64 5) H fun v18 H =>
       W.cond v18 H
       (fun H => W.get v1 H fun v19 H =>
        W.call Tryz.prog (.func (.func 137) #[] #[]) #[v19] H fun v20 H =>
        W.call Tryz.prog (.func (.func 133) #[] #[]) #[v20, (.int .i64 1)] H fun v21 H =>
        Q v21 H)
       (fun H => W.bin .eql kind_1 (.int .i64 6) H fun v22 H =>
        W.cond v22 H
        (fun H => W.get v1 H fun v23 H =>
         W.call Tryz.prog (.func (.func 137) #[] #[]) #[v23] H fun v24 H =>
         W.call Tryz.prog (.func (.func 133) #[] #[]) #[v24, (.int .i64 0)] H fun v25 H =>
         Q v25 H)
        (fun H => W.bin .eql kind_1 (.int .i64 7) H fun v26 H =>
         W.cond v26 H
         (fun H => W.get v1 H fun v27 H =>
          W.call Tryz.prog (.func (.func 138) #[] #[]) #[v27, (.int .i64 0)] H fun v28 H =>
          Q v28 H)
         (fun H => W.bin .eql kind_1 (.int .i64 8) H fun v29 H =>
          W.cond v29 H
          (fun H => W.get v1 H fun v30 H =>
           W.call Tryz.prog (.func (.func 138) #[] #[]) #[v30, (.int .i64 1)] H fun v31 H =>
           Q v31 H)
          (fun H => W.bin .eql kind_1 (.int .i64 9) H fun v32 H =>
           W.cond v32 H
           (fun H => W.get v1 H fun v33 H =>
            W.call Tryz.prog (.func (.func 50) #[] #[]) #[v33, (.func (.func 139) #[] #[v1])] H fun v34 H =>
            Q v34 H)
           (fun H => W.bin .eql kind_1 (.int .i64 10) H fun v35 H =>
            W.cond v35 H
            (fun H => W.get v1 H fun v36 H =>
             W.call Tryz.prog (.func (.func 140) #[] #[]) #[v36] H fun v37 H =>
             Q v37 H)
            (fun H => W.get v1 H fun v38 H =>
             W.call Tryz.prog (.func (.func 50) #[] #[]) #[v38, (.func (.func 141) #[] #[v1])] H fun v39 H =>
             W.guarded v39 false (fun H k => W.get v1 H k) H fun v40 H =>
             W.guarded v39 false (fun H k => k (.func (.func 142) #[] #[v1]) H) H fun v41 H =>
             W.guarded v39 false (fun H k => W.call Tryz.prog (.func (.func 50) #[] #[]) #[v40, v41] H k) H fun v42 H =>
             W.pick v39 (.bool true) v42 H fun v43 H =>
             Q v43 H)))))))))))
theorem f106.enter {Q : Post} {m_0 : Value} {kind_1 : Value} {H : Heap} (h : f106.w Q m_0 kind_1 H) : Runs Tryz.prog 106 #[m_0, kind_1] H Q :=
  fn_enter (ann := []) (by kernel_rfl) Tryz.func106 rfl (by kernel_rfl) h (by kernel_rfl)

/- loop.example/g01343/spec.IsConvex -/
def f26.w (Q : Post) (p_0 : Value) (H : Heap) : Prop :=
  W.box p_0 27 H fun v1 H =>
  W.getN 4 v1 H fun v2 H =>
  W.call Tryz.prog (.func (.func 54) #[] #[]) #[v2] H fun v3 H =>
  W.un .not v3 H fun v4 H =>
  W.cond v4 H
  (fun H => Q (.tuple #[(.bool false), (.int .i64 1)]) H)
  (fun H => W.getN 4 v1 H fun v5 H =>
   W.call Tryz.prog (.func (.func 92) #[] #[]) #[v5] H fun v6 H =>
   Q (.tuple #[v6, (.int .i64 0)]) H)
theorem f26.enter {Q : Post} {p_0 : Value} {H : Heap} (h : f26.w Q p_0 H) : Runs Tryz.prog 26 #[p_0] H Q :=
  fn_enter (ann := []) (by kernel_rfl) Tryz.func26 rfl (by kernel_rfl) h (by kernel_rfl)

/- loop.example/g01343/spec.l09Convex -/
def f92.w (Q : Post) (p_0 : Value) (H : Heap) : Prop :=
  W.box p_0 27 H fun v1 H =>
  W.fieldAddr 0 v1 H fun v2 H =>
  W.get v2 H fun v3 H =>
  W.call Tryz.prog (.func (.func 123) #[] #[]) #[v3, (.int .i64 6)] H fun v4 H =>
  Q v4 H
theorem f92.enter {Q : Post} {p_0 : Value} {H : Heap} (h : f92.w Q p_0 H) : Runs Tryz.prog 92 #[p_0] H Q :=
  fn_enter (ann := []) (by kernel_rfl) Tryz.func92 rfl (by kernel_rfl) h (by kernel_rfl)

/- loop.example/g01343/spec.l03Kind -/
def f123.l2 (Q : Post) (i_5 : Value) (m_0 : Value) (I1 : St [5] → Heap → Prop) (I2 : St [6] → Heap → Prop) (k_6 : Value) (H : Heap) : Prop :=
  W.bin .lss k_6 i_5 H fun v34 H =>
  W.cond v34 H
  (fun H => W.indexAddr 1 m_0 i_5 H fun v35 H =>
   W.get v35 H fun v36 H =>
   W.indexAddr 1 v36 k_6 H fun v37 H =>
   W.get v37 H fun v38 H =>
   W.indexAddr 1 m_0 k_6 H fun v39 H =>
   W.get v39 H fun v40 H =>
   W.indexAddr 1 v40 i_5 H fun v41 H =>
   W.get v41 H fun v42 H =>
   W.bin .neq v38 v42 H fun v43 H =>
   W.cond v43 H
   (fun H => Q (.bool false) H)
   (fun H => W.bin .add k_6 (.int .i64 1) H fun v44 H =>
    I2 (v44, ()) H))
  (fun H => W.bin .add i_5 (.int .i64 1) H fun v45 H =>
   I1 (v45, ()) H)
def f123.l1 (Q : Post) (m_0 : Value) (I1 : St [5] → Heap → Prop) (i_5 : Value) (H : Heap) : Prop :=
  W.len m_0 H fun v32 H =>
  W.bin .lss i_5 v32 H fun v33 H =>
  W.cond v33 H
  (fun H => W.loop (S := St [6]) (fun I2 s H => f123.l2 Q i_5 m_0 I1 I2 s.1 H) ((.int .i64 0), ()) H)
  (fun H => Q (.bool true) H)
def f123.w (Q : Post) (m_0 : Value) (kind_1 : Value) (H : Heap) : Prop :=
  W.bin .eql kind_1 (.int .i64 0) H fun v1 H =>
  W.cond v1 H
  (fun H => W.call Tryz.prog (.func (.func 149) #[] #[]) #[m_0] H fun v2 H =>
   W.bin .gtr v2 (.int .i64 0) H fun v3 H =>
   Q v3 H)
  (fun H => W.bin .eql kind_1 (.int .i64 1) H fun v4 H =>
   W.cond v4 H
   (fun H => W.call Tryz.prog (.func (.func 149) #[] #[]) #[m_0] H fun v5 H =>
    W.bin .geq v5 (.int .i64 0) H fun v6 H =>
    Q v6 H)
   (fun H => W.bin .eql kind_1 (.int .i64 2) H fun v7 H =>
    W.cond v7 H
    (fun H => W.call Tryz.prog (.func (.func 150) #[] #[]) #[m_0] H fun v8 H =>
     Q v8 H)
    (fun H => W.bin .eql kind_1 (.int .i64 3) H fun v9 H =>
     W.cond v9 H
     (fun H => W.call Tryz.prog (.func (.func 150) #[] #[]) #[m_0] H fun v10 H =>
      W.guarded v10 true (fun H k => k m_0 H) H fun v11 H =>
      W.guarded v10 true (fun H k => W.call Tryz.prog (.func (.func 149) #[] #[]) #[v11] H k) H fun v12 H =>
      W.guarded v10 true (fun H k => W.bin .gtr v12 (.int .i64 0) H k) H fun v13 H =>
      W.pick v10 v13 (.bool false) H fun v14 H =>
      Q v14 H)
     (fun H => W.bin .eql kind_1 (.int .i64 4) H fun v15 H =>
      W.cond v15 H
      (fun H => W.call Tryz.prog (.func (.func 151) #[] #[]) #[m_0] H fun v16 H =>
       W.call Tryz.prog (.func (.func 149) #[] #[]) #[v16] H fun v17 H =>
       W.bin .gtr v17 (.int .i64 0) H fun v18 H =>
       Q v18 H)
      (fun H => W.bin .eql kind_1 (.int .i64 5) H fun v19 H =>
       W.cond v19 H
       (fun H => W.call Tryz.prog (.func (.func 152) #[] #[]) #[m_0] H fun v20 H =>
        W.call Tryz.prog (.func (.func 149) #[] #[]) #[v20] H fun v21 H =>
        W.bin .gtr v21 (.int .i64 0) H fun v22 H =>
        Q v22 H)
       (fun H => W.bin .eql kind_1 (.int .i64 6) H fun v23 H =>
        W.cond v23 H
        (fun H => W.call Tryz.prog (.func (.func 152) #[] #[]) #[m_0] H fun v24 H =>
         W.call Tryz.prog (.func (.func 149) #[] #[]) #[v24] H fun v25 H =>
         W.bin .geq v25 (.int .i64 0) H fun v26 H =>
         Q v26 H)
        (fun H => W.bin .eql kind_1 (.int .i64 7) H fun v27 H =>
         W.cond v27 H
         (fun H => W.call Tryz.prog (.func (.func 153) #[] #[]) #[m_0, (.bool false)] H fun v28 H =>
          Q v28 H)
         (fun H => W.bin .eql kind_1 (.int .i64 8) H fun v29 H =>
          W.cond v29 H
          (fun H => W.call Tryz.prog (.func (.func 153) #[] #[]) #[m_0, (.bool true)] H fun v30 H =>
           Q v30 H)
          (fun H => W.bin .eql kind_1 (.int .i64 9) H fun v31 H =>
           W.cond v31 H
           (fun H => W.loop (S := St [5]) (fun I1 s H => f123.l1 Q m_0 I1 s.1 H) ((.int .i64 0), ()) H)
           (fun H => W.bin .eql kind_1 (.int .i64 10) H fun v46 H =>
            W.cond v46 H
            (fun H => W.call Tryz.prog (.func (.func 154) #[] #[]) #[m_0] H fun v47 H =>
             Q v47 H)
            (fun H => W.call Tryz.prog (.func (.func 155) #[] #[]) #[m_0] H fun v48 H =>
             Q v48 H)))))))))))
theorem f123.enter {Q : Post} {m_0 : Value} {kind_1 : Value} {H : Heap} (h : f123.w Q m_0 kind_1 H) : Runs Tryz.prog 123 #[m_0, kind_1] H Q :=
  fn_enter (ann := [(22, [5]), (25, [6])]) (by kernel_rfl) Tryz.func123 rfl (by kernel_rfl) h (by kernel_rfl)


/-- The matrix of a program is square, its numbers are small. -/
theorem IsPrg.sq {p : Prg} (hp : IsPrg p) : Sq p.2.1.length p.1 ∧ ∀ r c, (mAt p.1 r c).natAbs ≤ 20 := by
  refine ⟨⟨hp.dl, fun r hr => (hp.d r hr).1⟩, fun r c => ?_⟩
  simp only [mAt, List.getD_eq_getElem?_getD]
  cases e1 : p.1[r]? with
  | none => simp
  | some row =>
    simp only [Option.getD_some]
    cases e2 : row[c]? with
    | none => simp
    | some x =>
      have := (hp.d row (List.mem_of_getElem? e1)).2 x (List.mem_of_getElem? e2)
      simp only [Option.getD_some]
      omega

theorem symL_abs {n : Nat} {m : List (List Int)} (h : ∀ r c, (mAt m r c).natAbs ≤ 20) : ∀ r c, (mAt (symL n m) r c).natAbs ≤ 40 := tabL_abs fun r c => by
  have h1 := h r c
  have h2 := h c r
  omega

/-- All minors of twice the symmetric part are at least 0. -/
def semiL (n : Nat) (m : List (List Int)) : Bool := (minorsL n (symL n m)).all fun x => decide (0 ≤ x)

noncomputable def convRes (p : Prg) : Bool × Int := open Classical in if IsPrg p then (semiL p.2.1.length p.1, 0) else (false, 1)

theorem fn106 {H0 : Heap} {Q : Post} {v : Value} {m : List (List Int)} {n : Nat} (hr : Has RSS H0 [v] m) (hs : Sq n m) (hn : n ≤ 5) (hB : ∀ r c, (mAt m r c).natAbs ≤ 20)
    (hQ : ∀ H', H0.Le H' → Q (.bool (semiL n m)) H') : Runs Tryz.prog 106 #[v, .int .i64 6] H0 Q := by
  have h := (Loc.start H0).lent hr
  refine f106.enter (Wl.box1 h hr.cell1 fun H b h => ?_)
  refine Wi.eqlC (fun h => absurd h (by decide)) fun _ => Wi.fls (Wi.eqlC (fun h => absurd h (by decide)) fun _ => Wi.fls (Wi.eqlC (fun h => absurd h (by decide)) fun _ => Wi.fls (Wi.eqlC (fun h => absurd h (by decide)) fun _ => Wi.fls (Wi.eqlC (fun h => absurd h (by decide)) fun _ => Wi.fls (Wi.eqlC (fun h => absurd h (by decide)) fun _ => Wi.fls (Wi.eqlC (fun _ => Wi.tru ?_) fun h => absurd rfl h))))))
  refine Wl.get h rfl (Wi.call (fn137 (h.rd (cs := [v])) hs hn hB fun H u f => ?_))
  have h := h.add f
  exact Wi.call (fn133 (h.rd (cs := [u])) (tabL_sq n _) hn (symL_abs hB) fun H l => hQ _ (h.to l).le)

theorem fn123 {H0 : Heap} {Q : Post} {v : Value} {m : List (List Int)} {n : Nat} (hr : Has RSS H0 [v] m) (hs : Sq n m) (hn : n ≤ 5) (hB : ∀ r c, (mAt m r c).natAbs ≤ 20)
    (hQ : ∀ H', H0.Le H' → Q (.bool (semiL n m)) H') : Runs Tryz.prog 123 #[v, .int .i64 6] H0 Q := by
  refine f123.enter ?_
  unfold f123.w
  refine Wi.eqlC (fun h => absurd h (by decide)) fun _ => Wi.fls (Wi.eqlC (fun h => absurd h (by decide)) fun _ => Wi.fls (Wi.eqlC (fun h => absurd h (by decide)) fun _ => Wi.fls (Wi.eqlC (fun h => absurd h (by decide)) fun _ => Wi.fls (Wi.eqlC (fun h => absurd h (by decide)) fun _ => Wi.fls (Wi.eqlC (fun h => absurd h (by decide)) fun _ => Wi.fls (Wi.eqlC (fun _ => Wi.tru ?_) fun h => absurd rfl h))))))
  refine Wi.call (fn152 hr hs hn hB fun H u f => ?_)
  have h := ((Loc.start H0).addG f).asData (i := 0) rfl
  refine Wi.call (fn149 (h.rd (cs := [u])).ofG (tabL_sq n _) hn (symL_abs hB) fun H r l h1 h2 => Wi.geq ?_)
  have e : decide (0 ≤ r) = semiL n m := by
    unfold semiL
    rw [Bool.eq_iff_iff, List.all_eq_true]
    simp only [decide_eq_true_eq]
    exact ⟨fun g x hx => Int.le_trans g (h2 x hx), fun g => g r h1⟩
  rw [e]
  exact hQ _ (h.to l).le

theorem fn59 {H0 : Heap} {Q : Post} {cs : List Value} {p : Prg} (hr : Has RPrg H0 cs p) (hp : IsPrg p) (hQ : ∀ H', H0.Le H' → Q (.bool (semiL p.2.1.length p.1)) H') : Runs Tryz.prog 59 #[.agg cs.toArray] H0 Q := by
  obtain ⟨u1, u2, u3, u4, rfl, r1, r2, r3, r4⟩ := hasPrg hr
  have h := (Loc.start H0).lent r1
  have nm := hp.nm
  refine f59.enter (Wl.box h fun H b h => Wi.fieldAddr0 (Wl.get h rfl (Wi.call (fn106 (h.rd (cs := [u1])) hp.sq.1 (by omega) hp.sq.2 fun H l => hQ _ (h.to l).le))))

theorem fn92 {H0 : Heap} {Q : Post} {cs : List Value} {p : Prg} (hr : Has RPrg H0 cs p) (hp : IsPrg p) (hQ : ∀ H', H0.Le H' → Q (.bool (semiL p.2.1.length p.1)) H') : Runs Tryz.prog 92 #[.agg cs.toArray] H0 Q := by
  obtain ⟨u1, u2, u3, u4, rfl, r1, r2, r3, r4⟩ := hasPrg hr
  have h := (Loc.start H0).lent r1
  have nm := hp.nm
  refine f92.enter (Wl.box h fun H b h => Wi.fieldAddr0 (Wl.get h rfl (Wi.call (fn123 (h.rd (cs := [u1])) hp.sq.1 (by omega) hp.sq.2 fun H l => hQ _ (h.to l).le))))

theorem fn25 {H0 : Heap} {Q : Post} {cs : List Value} {p : Prg} (hr : Has RPrg H0 cs p) (hw : wPrg p ≤ 1048576) (hQ : ∀ H', H0.Le H' → Q (.tuple #[.bool (convRes p).1, .int .i64 (convRes p).2]) H') : Runs Tryz.prog 25 #[.agg cs.toArray] H0 Q := by
  have hl := hr.len
  have h := (Loc.start H0).lent hr
  unfold convRes at hQ
  refine f25.enter (Wl.box h fun H b h => Wl.getA h hl (Wi.call (fn28 (h.rd (cs := cs)) hw fun H t l ht => ?_)))
  have h := h.to l
  cases t with
  | false =>
    simp only [gw]
    have := hQ _ h.le
    rw [if_neg (fun g => Bool.noConfusion (ht.2 g))] at this
    exact this
  | true =>
    simp only [gw]
    have hp := ht.1 rfl
    refine Wl.getA h hl (Wi.call (fn59 (h.rd (cs := cs)) hp fun H l => ?_))
    have := hQ _ (h.to l).le
    rw [if_pos hp] at this
    exact this

theorem fn26 {H0 : Heap} {Q : Post} {cs : List Value} {p : Prg} (hr : Has RPrg H0 cs p) (hw : wPrg p ≤ 1048576) (hQ : ∀ H', H0.Le H' → Q (.tuple #[.bool (convRes p).1, .int .i64 (convRes p).2]) H') : Runs Tryz.prog 26 #[.agg cs.toArray] H0 Q := by
  have hl := hr.len
  have h := (Loc.start H0).lent hr
  unfold convRes at hQ
  refine f26.enter (Wl.box h fun H b h => Wl.getA h hl (Wi.call (fn54 (h.rd (cs := cs)) hw fun H t l ht => ?_)))
  have h := h.to l
  cases t with
  | false =>
    simp only [gw]
    have := hQ _ h.le
    rw [if_neg (fun g => Bool.noConfusion (ht.2 g))] at this
    exact this
  | true =>
    simp only [gw]
    have hp := ht.1 rfl
    refine Wl.getA h hl (Wi.call (fn92 (h.rd (cs := cs)) hp fun H l => ?_))
    have := hQ _ (h.to l).le
    rw [if_pos hp] at this
    exact this

end Go.Proofs.YtdchibdcfdbcpaaGreat

/-! The contract of only: the numbers in a set. No condition. -/
namespace Go.Proofs.YtdchibdcfdbcpaaGreat
open Go.Ab

/- loop.example/g01343/impl.only -/
def f64.j1 (Q : Post) (x_11 : Value) (I1 : St [11] → Heap → Prop) (H : Heap) : Prop :=
  W.bin .add x_11 (.int .i64 1) H fun v7 H =>
  I1 (v7, ()) H
def f64.l1 (Q : Post) (v2 : Value) (s_1 : Value) (v1 : Value) (I1 : St [11] → Heap → Prop) (x_11 : Value) (H : Heap) : Prop :=
  W.bin .lss x_11 v2 H fun v3 H =>
  W.cond v3 H
  (fun H => W.call Tryz.prog (.func (.func 110) #[] #[]) #[s_1, x_11] H fun v4 H =>
   W.un .not v4 H fun v5 H =>
   W.cond v5 H
   (fun H => W.indexAddr 1 v1 x_11 H fun v6 H =>
    W.put v6 (.int .i64 0) H fun _ H =>
    f64.j1 Q x_11 I1 H)
   (fun H => f64.j1 Q x_11 I1 H))
  (fun H => Q v1 H)
def f64.w (Q : Post) (point_0 : Value) (s_1 : Value) (H : Heap) : Prop :=
  W.call Tryz.prog (.func (.func 74) #[] #[]) #[point_0] H fun v1 H =>
  W.len v1 H fun v2 H =>
  W.loop (S := St [11]) (fun I1 s H => f64.l1 Q v2 s_1 v1 I1 s.1 H) ((.int .i64 0), ()) H
theorem f64.enter {Q : Post} {point_0 : Value} {s_1 : Value} {H : Heap} (h : f64.w Q point_0 s_1 H) : Runs Tryz.prog 64 #[point_0, s_1] H Q :=
  fn_enter (ann := [(3, [11])]) (by kernel_rfl) Tryz.func64 rfl (by kernel_rfl) h (by kernel_rfl)


def onlyL (n : Nat) (l : List Int) (s : Nat) : List Int := (List.range n).map fun i => if s.testBit i then l.getD i 0 else 0

theorem fnG64 {H0 : Heap} {Q : Post} {v : Value} {l : List Int} {n s : Nat} (hr : Has RS H0 [v] l) (hl : l.length = n) (hn : n ≤ 5) (hs : s < 9223372036854775808) (hQ : ∀ H' u, FreshG Rd.int 2 H0 u (onlyL n l s) H' → Q u H') : Runs Tryz.prog 64 #[v, .int .i64 (s : Nat)] H0 Q := by
  refine f64.enter (Wi.call (fn74 hr (by omega) fun H u g => ?_))
  have h := (Loc.start H0).addG g
  refine Wl.len h ?_
  rw [hl]
  have e0 : l = (List.range n).map fun i => if i < 0 ∧ s.testBit i = false then 0 else l.getD i 0 := by
    apply List.ext_getElem
    · simp [hl]
    · intro j h1 h2
      simp [List.getD_eq_getElem?_getD, List.getElem?_eq_getElem h1]
  have h : Ab.Loc H0 [.grow Rd.int 2 u ((List.range n).map fun i => if i < 0 ∧ s.testBit i = false then 0 else l.getD i 0)] H := by rw [← e0]; exact h
  refine W.for_rule n (fun x st H => st = (.int .i64 (x : Nat), ()) ∧ Ab.Loc H0 [.grow Rd.int 2 u ((List.range n).map fun i => if i < x ∧ s.testBit i = false then 0 else l.getD i 0)] H) ⟨rfl, h⟩ ?_
  rintro x st H J hx ⟨rfl, h⟩ hJ
  refine Wi.lssC (fun hlt => Wi.tru ?_) fun hge => Wi.fls ?_
  · have hxn : x < n := by omega
    have hI : I64 ((x : Int) + 1) := by unfold I64; omega
    refine Wi.call (fn110 hs (by omega) ?_)
    cases hb : s.testBit x with
    | false =>
      simp only [gw]
      refine Wl.setG h (by simpa using hxn) (by unfold I64; omega) fun H h => ?_
      unfold f64.j1
      refine Wi.add hI (hJ _ _ hxn ⟨rfl, ?_⟩)
      rw [range_set (g := fun i => if i < x + 1 ∧ s.testBit i = false then 0 else l.getD i 0) (by simp [hb]) (fun k _ hk => by
        by_cases g : k < x
        · simp [g, show k < x + 1 by omega]
        · simp [g, show ¬ k < x + 1 by omega])] at h
      exact h
    | true =>
      simp only [gw]
      unfold f64.j1
      refine Wi.add hI (hJ _ _ hxn ⟨rfl, ?_⟩)
      have e : ((List.range n).map fun i => if i < x ∧ s.testBit i = false then (0 : Int) else l.getD i 0) = (List.range n).map fun i => if i < x + 1 ∧ s.testBit i = false then 0 else l.getD i 0 := List.map_congr_left fun k _ => by
        by_cases g : k < x
        · simp [g, show k < x + 1 by omega]
        · by_cases g2 : k = x
          · subst g2; simp [hb]
          · simp [g, show ¬ k < x + 1 by omega]
      rw [← e]
      exact h
  · have : x = n := by omega
    subst this
    refine hQ _ _ ?_
    have e : onlyL x l s = (List.range x).map fun i => if i < x ∧ s.testBit i = false then 0 else l.getD i 0 := List.map_congr_left fun k hk => by
      have hk : k < x := by simpa using hk
      cases hb : s.testBit k <;> simp [hk]
    rw [e]
    exact h.retGG (i := 0) rfl

end Go.Proofs.YtdchibdcfdbcpaaGreat
