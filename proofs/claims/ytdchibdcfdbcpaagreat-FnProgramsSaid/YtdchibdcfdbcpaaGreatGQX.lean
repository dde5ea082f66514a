/- The contract of the reference's IsPlace. No condition. -/
import Derived.Test.YtdchibdcfdbcpaaGreatGQQ
import Derived.Test.YtdchibdcfdbcpaaGreatGDD
import Derived.Test.YtdchibdcfdbcpaaGreatGAA
namespace Go.Proofs.YtdchibdcfdbcpaaGreat
open Go.Ab

/- loop.example/g01343/spec.l09Fracs -/
def f102.l2 (Q : Post) (y_2 : Value) (x_1 : Value) (v1 : Value) (m_3 : Value) (I2 : St [10] → Heap → Prop) (i_10 : Value) (H : Heap) : Prop :=
  W.len y_2 H fun v12 H =>
  W.bin .lss i_10 v12 H fun v13 H =>
  W.cond v13 H
  (fun H => W.indexAddr 2 y_2 i_10 H fun v14 H =>
   W.getN 2 v14 H fun v15 H =>
   W.call Tryz.prog (.func (.func 131) #[] #[]) #[v15] H fun v16 H =>
   W.un .not v16 H fun v17 H =>
   W.cond v17 H
   (fun H => Q (.int .i64 1) H)
   (fun H => W.bin .add i_10 (.int .i64 1) H fun v18 H =>
    I2 (v18, ()) H))
  (fun H => W.len x_1 H fun v19 H =>
   W.fieldAddr 1 v1 H fun v20 H =>
   W.get v20 H fun v21 H =>
   W.len v21 H fun v22 H =>
   W.bin .neq v19 v22 H fun v23 H =>
   W.guarded v23 false (fun H k => k y_2 H) H fun v24 H =>
   W.guarded v23 false (fun H k => W.len v24 H k) H fun v25 H =>
   W.guarded v23 false (fun H k => k m_3 H) H fun v26 H =>
   W.guarded v23 false (fun H k => W.bin .neq v25 v26 H k) H fun v27 H =>
   W.pick v23 (.bool true) v27 H fun v28 H =>
   W.cond v28 H
   (fun H => Q (.int .i64 2) H)
   (fun H => Q (.int .i64 0) H))
def f102.l1 (Q : Post) (x_1 : Value) (y_2 : Value) (v1 : Value) (m_3 : Value) (I1 : St [9] → Heap → Prop) (i_9 : Value) (H : Heap) : Prop :=
  W.len x_1 H fun v5 H =>
  W.bin .lss i_9 v5 H fun v6 H =>
  W.cond v6 H
  (fun H => W.indexAddr 2 x_1 i_9 H fun v7 H =>
   W.getN 2 v7 H fun v8 H =>
   W.call Tryz.prog (.func (.func 131) #[] #[]) #[v8] H fun v9 H =>
   W.un .not v9 H fun v10 H =>
   W.cond v10 H
   (fun H => Q (.int .i64 1) H)
   (fun H => W.bin .add i_9 (.int .i64 1) H fun v11 H =>
    I1 (v11, ()) H))
  (fun H => W.loop (S := St [10]) (fun I2 s H => f102.l2 Q y_2 x_1 v1 m_3 I2 s.1 H) ((.int .i64 0), ()) H)
def f102.w (Q : Post) (p_0 : Value) (x_1 : Value) (y_2 : Value) (m_3 : Value) (H : Heap) : Prop :=
  W.box p_0 27 H fun v1 H =>
  W.getN 4 v1 H fun v2 H =>
  W.call Tryz.prog (.func (.func 54) #[] #[]) #[v2] H fun v3 H =>
  W.un .not v3 H fun v4 H =>
  W.cond v4 H
  (fun H => Q (.int .i64 1) H)
  (fun H => W.loop (S := St [9]) (fun I1 s H => f102.l1 Q x_1 y_2 v1 m_3 I1 s.1 H) ((.int .i64 0), ()) H)
theorem f102.enter {Q : Post} {p_0 : Value} {x_1 : Value} {y_2 : Value} {m_3 : Value} {H : Heap} (h : f102.w Q p_0 x_1 y_2 m_3 H) : Runs Tryz.prog 102 #[p_0, x_1, y_2, m_3] H Q :=
  fn_enter (ann := [(4, [9]), (9, [10])]) (by kernel_rfl) Tryz.func102 rfl (by kernel_rfl) h (by kernel_rfl)

/- loop.example/g01343/spec.IsPlace -/
def f41.l3 (Q : Post) (v7 : Value) (v1 : Value) (j_11 : Value) (v8 : Value) (I2 : St [11] → Heap → Prop) (I3 : St [12, 13] → Heap → Prop) (sum_12 : Value) (k_13 : Value) (H : Heap) : Prop :=
  W.len v7 H fun v21 H =>
  W.bin .lss k_13 v21 H fun v22 H =>
  W.cond v22 H
  (fun H => W.fieldAddr 2 v1 H fun v23 H =>
   W.get v23 H fun v24 H =>
   W.indexAddr 1 v24 j_11 H fun v25 H =>
   W.get v25 H fun v26 H =>
   W.indexAddr 1 v26 k_13 H fun v27 H =>
   W.get v27 H fun v28 H =>
   W.indexAddr 1 v7 k_13 H fun v29 H =>
   W.get v29 H fun v30 H =>
   W.bin .mul v28 v30 H fun v31 H =>
   W.bin .add sum_12 v31 H fun v32 H =>
   W.bin .add k_13 (.int .i64 1) H fun v33 H =>
   I3 (v32, v33, ()) H)
  (fun H => W.fieldAddr 3 v1 H fun v34 H =>
   W.get v34 H fun v35 H =>
   W.indexAddr 1 v35 j_11 H fun v36 H =>
   W.get v36 H fun v37 H =>
   W.bin .mul v37 v8 H fun v38 H =>
   W.bin .lss sum_12 v38 H fun v39 H =>
   W.cond v39 H
   (fun H => Q (.tuple #[(.bool false), (.int .i64 0)]) H)
   (fun H => W.bin .add j_11 (.int .i64 1) H fun v40 H =>
    I2 (v40, ()) H))
def f41.l2 (Q : Post) (v1 : Value) (v7 : Value) (v8 : Value) (I2 : St [11] → Heap → Prop) (j_11 : Value) (H : Heap) : Prop :=
  W.fieldAddr 3 v1 H fun v17 H =>
  W.get v17 H fun v18 H =>
  W.len v18 H fun v19 H =>
  W.bin .lss j_11 v19 H fun v20 H =>
  W.cond v20 H
  (fun H => W.loop (S := St [12, 13]) (fun I3 s H => f41.l3 Q v7 v1 j_11 v8 I2 I3 s.1 s.2.1 H) ((.int .i64 0), (.int .i64 0), ()) H)
  (fun H => Q (.tuple #[(.bool true), (.int .i64 0)]) H)
def f41.l1 (Q : Post) (v7 : Value) (v1 : Value) (v8 : Value) (I1 : St [10] → Heap → Prop) (i_10 : Value) (H : Heap) : Prop :=
  W.len v7 H fun v11 H =>
  W.bin .lss i_10 v11 H fun v12 H =>
  W.cond v12 H
  (fun H => W.indexAddr 1 v7 i_10 H fun v13 H =>
   W.get v13 H fun v14 H =>
   W.bin .lss v14 (.int .i64 0) H fun v15 H =>
   W.cond v15 H
   (fun H => Q (.tuple #[(.bool false), (.int .i64 0)]) H)
   (fun H => W.bin .add i_10 (.int .i64 1) H fun v16 H =>
    I1 (v16, ()) H))
  (fun H => W.loop (S := St [11]) (fun I2 s H => f41.l2 Q v1 v7 v8 I2 s.1 H) ((.int .i64 0), ()) H)
def f41.w (Q : Post) (p_0 : Value) (x_1 : Value) (H : Heap) : Prop :=
  W.box p_0 27 H fun v1 H =>
  W.getN 4 v1 H fun v2 H =>
  W.lit 0 [(.int .i64 0), (.int .i64 0)] 34 [] H fun v3 H =>
  W.call Tryz.prog (.func (.func 102) #[] #[]) #[v2, x_1, v3, (.int .i64 0)] H fun v4 H =>
  W.bin .neq v4 (.int .i64 0) H fun v5 H =>
  W.cond v5 H
  (fun H => Q (.tuple #[(.bool false), v4]) H)
  (fun H => W.call Tryz.prog (.func (.func 103) #[] #[]) #[x_1] H fun v6 H =>
   W.extract 0 v6 H fun v7 H =>
   W.extract 1 v6 H fun v8 H =>
   W.extract 2 v6 H fun v9 H =>
   W.un .not v9 H fun v10 H =>
   W.cond v10 H
   (fun H => Q (.tuple #[(.bool false), (.int .i64 3)]) H)
   (fun H => W.loop (S := St [10]) (fun I1 s H => f41.l1 Q v7 v1 v8 I1 s.1 H) ((.int .i64 0), ()) H))
theorem f41.enter {Q : Post} {p_0 : Value} {x_1 : Value} {H : Heap} (h : f41.w Q p_0 x_1 H) : Runs Tryz.prog 41 #[p_0, x_1] H Q :=
  fn_enter (ann := [(8, [10]), (13, [11]), (17, [12, 13])]) (by kernel_rfl) Tryz.func41 rfl (by kernel_rfl) h (by kernel_rfl)


theorem fn102 {H0 : Heap} {Q : Post} {cs : List Value} {vx vy : Value} {p : Prg} {xs : List Frac} (hr : Has RPrg H0 cs p) (hx : Has RFS H0 [vx] xs) (hy : Has RFS H0 [vy] []) (hw : wPrg p ≤ 1048576)
    (e1 : ¬ (IsPrg p ∧ Frs xs) → ∀ H', H0.Le H' → Q (.int .i64 1) H') (e2 : IsPrg p → Frs xs → xs.length ≠ p.2.1.length → ∀ H', H0.Le H' → Q (.int .i64 2) H')
    (e3 : IsPrg p → Frs xs → xs.length = p.2.1.length → ∀ H', H0.Le H' → Q (.int .i64 0) H') : Runs Tryz.prog 102 #[.agg cs.toArray, vx, vy, .int .i64 0] H0 Q := by
  obtain ⟨u1, u2, u3, u4, rfl, r1, r2, r3, r4⟩ := hasPrg hr
  have hs := hx.small
  refine f102.enter ?_
  unfold f102.w
  have h := ((((Loc.start H0).lent hx).lent hy).lent r2).lent hr
  refine Wl.box h fun H b h => Wl.getA h rfl (Wi.call (fn54 (h.rd (cs := [u1, u2, u3, u4])) hw fun H t l ht => ?_))
  have h := h.to l
  cases t with
  | false =>
    simp only [gw]
    exact e1 (fun g => Bool.noConfusion (ht.2 g.1)) _ h.le
  | true =>
  have hp := ht.1 rfl
  simp only [gw]
  refine W.all_rule xs.length (fun i => isFr 1000000000 (xs.getD i (0, 0))) (fun i H1 J hi _ l hJ => ?_) fun H1 J hall l => ?_
  · have h := h.to l
    refine Wl.lenH (hx.le h.le) (Wi.lssC (fun _ => Wi.tru ?_) fun h => by omega)
    refine Wl.atFrH (hx.le h.le) hi fun _ _ => Wi.call (fn131 fun H3 l3 => Wi.not ?_)
    cases hf : isFr 1000000000 xs[i] with
    | false => exact Wi.tru (e1 (fun g => by rw [g.2 _ (List.getElem_mem hi)] at hf; cases hf) _ (h.le.trans l3))
    | true => exact Wi.fls (Wi.add (by unfold I64; omega) (hJ (by rw [fr_at hi]; exact hf) H3 l3))
  have h := h.to l
  have hf : Frs xs := fun a ha => by
    obtain ⟨i, hi, rfl⟩ := List.mem_iff_getElem.1 ha
    have := hall i hi
    rw [fr_at hi] at this
    exact this
  refine Wl.lenH (hx.le h.le) (Wi.lssC (fun h => by omega) fun _ => Wi.fls ?_)
  refine W.all_rule 0 (fun _ => true) (fun i H1 J hi _ l hJ => by omega) fun H1 J _ l => ?_
  have h := h.to l
  refine Wl.lenH (hy.le h.le) (Wi.lssC (fun h => by simp at h) fun _ => Wi.fls ?_)
  refine Wl.lenH (hx.le h.le) (Wi.fieldAddr0 (Wl.get h rfl (Wl.len h (Wi.neqC (fun hne => ?_) fun he => ?_))))
  · simp only [gw]
    exact e2 hp hf (fun g => hne (by rw [g])) _ h.le
  · simp only [gw]
    refine Wl.lenH (hy.le h.le) (Wi.neqC (fun hne => absurd rfl hne) fun _ => ?_)
    simp only [gw]
    exact e3 hp hf (by omega) _ h.le

theorem fn41 {H0 : Heap} {Q : Post} {cs : List Value} {vx : Value} {p : Prg} {xs : List Frac} (hr : Has RPrg H0 cs p) (hx : Has RFS H0 [vx] xs) (hw : wPrg p ≤ 1048576) (hl : xs.length ≤ 1048576)
    (hQ : ∀ H', H0.Le H' → Q (.tuple #[.bool (plRes p xs).1, .int .i64 (plRes p xs).2]) H') : Runs Tryz.prog 41 #[.agg cs.toArray, vx] H0 Q := by
  obtain ⟨u1, u2, u3, u4, rfl, r1, r2, r3, r4⟩ := hasPrg hr
  refine f41.enter ?_
  unfold f41.w
  have hz : ∀ H t c, H0.Le H → plRes p xs = (t, c) → Q (.tuple #[.bool t, .int .i64 c]) H := fun H t c l e => by
    have := hQ H l
    rw [e] at this
    exact this
  have h := ((((Loc.start H0).lent hx).lent r4).lent r3).lent hr
  refine Wl.box h fun H b h => Wl.getA h rfl (Wl.lit0 RFrac rfl h fun H y h => Wi.call (fn102 (h.rd (cs := [u1, u2, u3, u4])) (h.rd (cs := [vx])) (h.rd (cs := [y])) hw (fun g H l => ?_) (fun hp hf g H l => ?_) fun hp hf he H l => ?_))
  · have h := h.to l
    exact Wi.neqC (fun _ => Wi.tru (hz _ _ _ h.le (by simp only [plRes, if_neg g]))) fun e => absurd e (by decide)
  · have h := h.to l
    exact Wi.neqC (fun _ => Wi.tru (hz _ _ _ h.le (by simp only [plRes, if_pos (And.intro hp hf), if_neg g]))) fun e => absurd e (by decide)
  have h := h.to l
  refine Wi.neqC (fun e => absurd rfl e) fun _ => Wi.fls (Wi.call (fn103 (h.rd (cs := [vx])) hf hl (fun g H l => ?_) fun l d g H u f => ?_))
  · have h := h.to l
    simp only [gw]
    exact hz _ _ _ h.le (by simp only [plRes, if_pos (And.intro hp hf), if_pos he, g])
  have h := h.add f.fresh
  have hres : ∀ t : Bool, (t = true ↔ plOK p l d) → plRes p xs = (t, 0) := fun t ht => by
    simp only [plRes, if_pos (And.intro hp hf), if_pos he, g]
    congr 1
    rw [Bool.eq_iff_iff, ht]
    simp
  obtain ⟨f1, f2, f3, f4⟩ := tog_facts hf (by omega) g
  have fa := abs12 (k := 1000000000000) f4 rfl
  have n1 := hp.n1; have nm := hp.nm; have dl := hp.dl; have al := hp.al
  simp only [gw]
  refine W.all_rule l.length (fun i => decide (0 ≤ l.getD i 0)) (fun i H1 J hi _ l1 hJ => ?_) fun H1 J hall l1 => ?_
  · have h := h.to l1
    refine Wl.len h (Wi.lssC (fun _ => Wi.tru ?_) fun h => by omega)
    refine Wl.atInt h hi fun _ => Wi.lssC (fun hlt => Wi.tru ?_) fun hge => Wi.fls (Wi.add (by unfold I64; omega) (hJ (by rw [getD_at hi]; exact decide_eq_true (by omega)) _ (.refl _)))
    refine hz _ _ _ h.le (hres false ⟨fun e => Bool.noConfusion e, fun g => ?_⟩)
    have := g.2 _ (List.getElem_mem hi)
    omega
  have h := h.to l1
  have hpos : ∀ a ∈ l, 0 ≤ a := fun a ha => by
    obtain ⟨i, hi, rfl⟩ := List.mem_iff_getElem.1 ha
    have := hall i hi
    rw [getD_at hi] at this
    exact of_decide_eq_true this
  refine Wl.len h (Wi.lssC (fun h => by omega) fun _ => Wi.fls ?_)
  refine W.all_rule p.2.2.2.length (fun j => decide (p.2.2.2.getD j 0 * d ≤ dot (p.2.2.1.getD j []) l)) (fun j H2 J2 hjb _ l2 hJ2 => ?_) fun H2 J2 hall2 l2 => ?_
  · have h := h.to l2
    have hj : j < p.2.2.1.length := by omega
    have ha := hp.a _ (List.getElem_mem hj)
    have hal := ha.1
    refine Wi.fieldAddr0 (Wl.get h rfl (Wl.len h (Wi.lssC (fun _ => Wi.tru ?_) fun h => by omega)))
    have hrl : p.2.2.1[j].length = l.length := by omega
    have hb := hp.b _ (List.getElem_mem hjb)
    have haa : ∀ e ∈ p.2.2.1[j], e.natAbs ≤ 20 := fun e he => by have := ha.2 e he; omega
    have hP : ∀ k, (dotF p.2.2.1[j] l k).natAbs ≤ 20 * 1000000000000 := fun k => mul_abs (getD_abs haa k) (getD_abs fa k)
    have hbd : (p.2.2.2[j] * d).natAbs ≤ 100 * 1000000000 := mul_abs (by omega) (by omega)
    refine W.for_rule l.length (fun k s H' => H' = H2 ∧ s = (.int .i64 (sumTo (dotF p.2.2.1[j] l) k), .int .i64 (k : Nat), ())) ⟨rfl, rfl⟩ ?_
    rintro k s H3 J3 hk ⟨rfl, rfl⟩ hJ3
    refine Wl.len h (Wi.lssC (fun hlt => Wi.tru ?_) fun hge => Wi.fls ?_)
    · have hkl : k < l.length := by omega
      have hka : k < p.2.2.1[j].length := by omega
      have h1 := hP k
      have h2 : (sumTo (dotF p.2.2.1[j] l) (k + 1)).natAbs ≤ (k + 1) * (20 * 1000000000000) := sumTo_abs fun i _ => hP i
      have h2' := mul5 (n := k + 1) (N := 20 * 1000000000000) (by omega)
      have e : dotF p.2.2.1[j] l k = p.2.2.1[j][k] * l[k] := by simp only [dotF]; rw [getD_at hka, getD_at hkl]
      have h3 := abs_i64 h2 (by omega)
      have h4 := abs_i64 h1 (by omega)
      simp only [sumTo] at h3
      rw [e] at h3 h4
      refine Wi.fieldAddr0 (Wl.get h rfl (Wl.at1 rfl h hj fun w hw => Wl.atIntH hw hka fun _ => Wl.atInt h hkl fun _ => Wi.mul h4 (Wi.add h3 (Wi.add (by unfold I64; omega) (hJ3 _ _ hkl ⟨rfl, ?_⟩)))))
      simp only [sumTo]
      rw [e]
      rfl
    · have : k = l.length := by omega
      subst this
      have ed : sumTo (dotF p.2.2.1[j] l) l.length = dot p.2.2.1[j] l := by unfold dot; rw [hrl]
      rw [ed]
      refine Wi.fieldAddr0 (Wl.get h rfl (Wl.atInt h hjb fun _ => Wi.mul (by unfold I64; omega) (Wi.lssC (fun hlt => Wi.tru ?_) fun hge => Wi.fls (Wi.add (by unfold I64; omega) (hJ2 ?_ _ (.refl _))))))
      · refine hz _ _ _ h.le (hres false ⟨fun e => Bool.noConfusion e, fun g => ?_⟩)
        have := g.1 j hj
        rw [getD_at hjb, getD_row hj] at this
        omega
      · rw [getD_at hjb, getD_row hj]
        exact decide_eq_true (by omega)
  · have h := h.to l2
    refine Wi.fieldAddr0 (Wl.get h rfl (Wl.len h (Wi.lssC (fun h => by omega) fun _ => Wi.fls ?_)))
    exact hz _ _ _ h.le (hres true ⟨fun _ => ⟨fun j hj => of_decide_eq_true (hall2 j (by omega)), hpos⟩, fun _ => rfl⟩)

end Go.Proofs.YtdchibdcfdbcpaaGreat
/-! The contract of the reference's ValueAt. No condition. -/
namespace Go.Proofs.YtdchibdcfdbcpaaGreat
open Go.Ab

/- loop.example/g01343/spec.l09Small -/
def f101.l1 (Q : Post) (v7 : Value) (v8 : Value) (I1 : St [11] → Heap → Prop) (i_11 : Value) (H : Heap) : Prop :=
  W.len v7 H fun v14 H =>
  W.bin .lss i_11 v14 H fun v15 H =>
  W.cond v15 H
  (fun H => W.indexAddr 1 v7 i_11 H fun v16 H =>
   W.get v16 H fun v17 H =>
   W.call Tryz.prog (.func (.func 77) #[] #[]) #[v17, (.int .i64 (-10000000)), (.int .i64 10000000)] H fun v18 H =>
   W.un .not v18 H fun v19 H =>
   W.cond v19 H
   (fun H => Q (.tuple #[(.slice none 0 0), (.int .i64 0), (.int .i64 3)]) H)
   (fun H => W.bin .add i_11 (.int .i64 1) H fun v20 H =>
    I1 (v20, ()) H))
  (fun H => Q (.tuple #[v7, v8, (.int .i64 0)]) H)
def f101.w (Q : Post) (p_0 : Value) (x_1 : Value) (H : Heap) : Prop :=
  W.box p_0 27 H fun v1 H =>
  W.getN 4 v1 H fun v2 H =>
  W.lit 0 [(.int .i64 0), (.int .i64 0)] 34 [] H fun v3 H =>
  W.call Tryz.prog (.func (.func 102) #[] #[]) #[v2, x_1, v3, (.int .i64 0)] H fun v4 H =>
  W.bin .neq v4 (.int .i64 0) H fun v5 H =>
  W.cond v5 H
  (fun H => Q (.tuple #[(.slice none 0 0), (.int .i64 0), v4]) H)
  (fun H => W.call Tryz.prog (.func (.func 103) #[] #[]) #[x_1] H fun v6 H =>
   W.extract 0 v6 H fun v7 H =>
   W.extract 1 v6 H fun v8 H =>
   W.extract 2 v6 H fun v9 H =>
   W.un .not v9 H fun v10 H =>
   W.guarded v10 false (fun H k => k v8 H) H fun v11 H =>
   W.guarded v10 false (fun H k => W.bin .gtr v11 (.int .i64 10000) H k) H fun v12 H =>
   W.pick v10 (.bool true) v12 H fun v13 H =>
   W.cond v13 H
   (fun H => Q (.tuple #[(.slice none 0 0), (.int .i64 0), (.int .i64 3)]) H)
   (fun H => W.loop (S := St [11]) (fun I1 s H => f101.l1 Q v7 v8 I1 s.1 H) ((.int .i64 0), ()) H))
theorem f101.enter {Q : Post} {p_0 : Value} {x_1 : Value} {H : Heap} (h : f101.w Q p_0 x_1 H) : Runs Tryz.prog 101 #[p_0, x_1] H Q :=
  fn_enter (ann := [(8, [11])]) (by kernel_rfl) Tryz.func101 rfl (by kernel_rfl) h (by kernel_rfl)

/- loop.example/g01343/spec.ValueAt -/
def f38.l2 (Q : Post) (v5 : Value) (i_10 : Value) (v1 : Value) (I1 : St [9, 10] → Heap → Prop) (I2 : St [9, 11] → Heap → Prop) (sum_9' : Value) (k_11 : Value) (H : Heap) : Prop :=
  W.len v5 H fun v23 H =>
  W.bin .lss k_11 v23 H fun v24 H =>
  W.cond v24 H
  (fun H => W.indexAddr 1 v5 i_10 H fun v25 H =>
   W.get v25 H fun v26 H =>
   W.fieldAddr 0 v1 H fun v27 H =>
   W.get v27 H fun v28 H =>
   W.indexAddr 1 v28 i_10 H fun v29 H =>
   W.get v29 H fun v30 H =>
   W.indexAddr 1 v30 k_11 H fun v31 H =>
   W.get v31 H fun v32 H =>
   W.bin .mul v26 v32 H fun v33 H =>
   W.indexAddr 1 v5 k_11 H fun v34 H =>
   W.get v34 H fun v35 H =>
   W.bin .mul v33 v35 H fun v36 H =>
   W.bin .add sum_9' v36 H fun v37 H =>
   W.bin .add k_11 (.int .i64 1) H fun v38 H =>
   I2 (v37, v38, ()) H)
  (fun H => W.bin .add i_10 (.int .i64 1) H fun v39 H =>
   I1 (sum_9', v39, ()) H)
def f38.l1 (Q : Post) (v5 : Value) (v1 : Value) (v6 : Value) (v2 : Value) (I1 : St [9, 10] → Heap → Prop) (sum_9 : Value) (i_10 : Value) (H : Heap) : Prop :=
  W.len v5 H fun v11 H =>
  W.bin .lss i_10 v11 H fun v12 H =>
  W.cond v12 H
  (fun H => W.fieldAddr 1 v1 H fun v13 H =>
   W.get v13 H fun v14 H =>
   W.indexAddr 1 v14 i_10 H fun v15 H =>
   W.get v15 H fun v16 H =>
   W.bin .mul (.int .i64 2) v16 H fun v17 H =>
   W.indexAddr 1 v5 i_10 H fun v18 H =>
   W.get v18 H fun v19 H =>
   W.bin .mul v17 v19 H fun v20 H =>
   W.bin .mul v20 v6 H fun v21 H =>
   W.bin .add sum_9 v21 H fun v22 H =>
   W.loop (S := St [9, 11]) (fun I2 s H => f38.l2 Q v5 i_10 v1 I1 I2 s.1 s.2.1 H) (v22, (.int .i64 0), ()) H)
  (fun H => W.bin .mul (.int .i64 2) v6 H fun v40 H =>
   W.bin .mul v40 v6 H fun v41 H =>
   W.call Tryz.prog (.func (.func 89) #[] #[]) #[sum_9, v41] H fun v42 H =>
   W.call Tryz.prog (.func (.func 88) #[] #[]) #[v42] H fun v43 H =>
   W.extract 0 v43 H fun v44 H =>
   W.extract 1 v43 H fun v45 H =>
   W.new [(.int .i64 0), (.int .i64 0)] 34 H fun v46 H =>
   W.putN 2 v46 v44 H fun _ H =>
   W.getN 2 v46 H fun v47 H =>
   W.putN 2 v2 v47 H fun _ H =>
   W.getN 2 v2 H fun v48 H => Q (.tuple #[v48, v45]) H)
def f38.w (Q : Post) (p_0 : Value) (x_1 : Value) (H : Heap) : Prop :=
  W.box p_0 27 H fun v1 H =>
  W.new [(.int .i64 0), (.int .i64 0)] 34 H fun v2 H =>
  W.getN 4 v1 H fun v3 H =>
  W.call Tryz.prog (.func (.func 101) #[] #[]) #[v3, x_1] H fun v4 H =>
  W.extract 0 v4 H fun v5 H =>
  W.extract 1 v4 H fun v6 H =>
  W.extract 2 v4 H fun v7 H =>
  W.bin .neq v7 (.int .i64 0) H fun v8 H =>
  W.cond v8 H
  (fun H => W.build [(.int .i64 0), (.int .i64 0)] [] H fun v9 H =>
   W.putN 2 v2 v9 H fun _ H =>
   W.getN 2 v2 H fun v10 H => Q (.tuple #[v10, v7]) H)
  (fun H => W.loop (S := St [9, 10]) (fun I1 s H => f38.l1 Q v5 v1 v6 v2 I1 s.1 s.2.1 H) ((.int .i64 0), (.int .i64 0), ()) H)
theorem f38.enter {Q : Post} {p_0 : Value} {x_1 : Value} {H : Heap} (h : f38.w Q p_0 x_1 H) : Runs Tryz.prog 38 #[p_0, x_1] H Q :=
  fn_enter (ann := [(6, [9, 10]), (10, [9, 11])]) (by kernel_rfl) Tryz.func38 rfl (by kernel_rfl) h (by kernel_rfl)


theorem fn101 {H0 : Heap} {Q : Post} {cs : List Value} {vx : Value} {p : Prg} {xs : List Frac} (hr : Has RPrg H0 cs p) (hx : Has RFS H0 [vx] xs) (hw : wPrg p ≤ 1048576) (hl : xs.length ≤ 1048576)
    (e1 : ¬ (IsPrg p ∧ Frs xs) → ∀ H', H0.Le H' → Q (.tuple #[.slice none 0 0, .int .i64 0, .int .i64 1]) H')
    (e2 : IsPrg p → Frs xs → xs.length ≠ p.2.1.length → ∀ H', H0.Le H' → Q (.tuple #[.slice none 0 0, .int .i64 0, .int .i64 2]) H')
    (e3 : IsPrg p → Frs xs → xs.length = p.2.1.length → tog 10000 10000000 xs = none → ∀ H', H0.Le H' → Q (.tuple #[.slice none 0 0, .int .i64 0, .int .i64 3]) H')
    (e4 : IsPrg p → Frs xs → xs.length = p.2.1.length → ∀ l d, tog 10000 10000000 xs = some (l, d) → ∀ H' u, Fresh RS H0 [u] l H' → Q (.tuple #[u, .int .i64 d, .int .i64 0]) H') :
    Runs Tryz.prog 101 #[.agg cs.toArray, vx] H0 Q := by
  obtain ⟨u1, u2, u3, u4, rfl, r1, r2, r3, r4⟩ := hasPrg hr
  refine f101.enter ?_
  unfold f101.w
  have h := ((Loc.start H0).lent hx).lent hr
  refine Wl.box h fun H b h => Wl.getA h rfl (Wl.lit0 RFrac rfl h fun H y h => Wi.call (fn102 (h.rd (cs := [u1, u2, u3, u4])) (h.rd (cs := [vx])) (h.rd (cs := [y])) hw (fun g H l => ?_) (fun hp hf g H l => ?_) fun hp hf he H l => ?_))
  · have h := h.to l
    exact Wi.neqC (fun _ => Wi.tru (e1 g _ h.le)) fun e => absurd e (by decide)
  · have h := h.to l
    exact Wi.neqC (fun _ => Wi.tru (e2 hp hf g _ h.le)) fun e => absurd e (by decide)
  have h := h.to l
  have none_of : (∀ l d, tog 1000000000 1000000000000 xs = some (l, d) → ¬ (d ≤ 10000 ∧ ∀ a ∈ l, -10000000 ≤ a ∧ a ≤ 10000000)) → tog 10000 10000000 xs = none := fun g => by
    cases ht : tog 10000 10000000 xs with
    | none => rfl
    | some q =>
      obtain ⟨l, d⟩ := q
      have := (tog_small hf).1 ht
      exact absurd this.2 (g _ _ this.1)
  refine Wi.neqC (fun e => absurd rfl e) fun _ => Wi.fls (Wi.call (fn103 (h.rd (cs := [vx])) hf hl (fun g H l => ?_) fun l d g H u f => ?_))
  · have h := h.to l
    simp only [gw]
    exact e3 hp hf he (none_of fun l d e => by rw [g] at e; cases e) _ h.le
  have h := h.add f.fresh
  have only : ∀ l' d', tog 1000000000 1000000000000 xs = some (l', d') → l' = l ∧ d' = d := fun l' d' e => by
    rw [g] at e
    simp only [Option.some.injEq, Prod.mk.injEq] at e
    exact ⟨e.1.symm, e.2.symm⟩
  obtain ⟨f1, f2, f3, f4⟩ := tog_facts hf (by omega) g
  simp only [gw]
  refine Wi.gtrC (fun hgt => ?_) fun hle => ?_
  · simp only [gw]
    refine e3 hp hf he (none_of fun l' d' e g' => ?_) _ h.le
    obtain ⟨rfl, rfl⟩ := only _ _ e
    omega
  simp only [gw]
  refine W.all_rule l.length (fun i => inR (-10000000) 10000000 (l.getD i 0)) (fun i H1 J hi _ l1 hJ => ?_) fun H1 J hall l1 => ?_
  · have h := h.to l1
    have := hp.n1; have := hp.nm
    refine Wl.len h (Wi.lssC (fun _ => Wi.tru ?_) fun h => by omega)
    refine Wl.atInt h hi fun _ => Wi.call (fn77 (Wi.not ?_))
    cases hin : inR (-10000000) 10000000 l[i] with
    | false =>
      refine Wi.tru (e3 hp hf he (none_of fun l' d' e g' => ?_) _ h.le)
      obtain ⟨rfl, rfl⟩ := only _ _ e
      rw [inR_iff.2 (g'.2 _ (List.getElem_mem hi))] at hin
      cases hin
    | true => exact Wi.fls (Wi.add (by unfold I64; omega) (hJ (by rw [getD_at hi]; exact hin) _ (.refl _)))
  · have h := h.to l1
    refine Wl.len h (Wi.lssC (fun h => by omega) fun _ => Wi.fls (e4 hp hf he l d ((tog_small hf).2 ⟨g, by omega, fun a ha => ?_⟩) _ _ (h.ret (i := 0) rfl)))
    obtain ⟨i, hi, rfl⟩ := List.mem_iff_getElem.1 ha
    have := hall i hi
    rw [getD_at hi] at this
    exact inR_iff.1 this


abbrev vaT (l : List Int) (p : Prg) (i : Nat) : Nat → Int := fun k => l.getD i 0 * (p.1.getD i []).getD k 0 * l.getD k 0
abbrev vaF (p : Prg) (l : List Int) (d : Int) : Nat → Int := fun i => 2 * p.2.1.getD i 0 * l.getD i 0 * d + sumTo (vaT l p i) p.2.1.length

theorem vaS_eq {p : Prg} (hp : IsPrg p) (l : List Int) {i : Nat} (hi : i < p.2.1.length) : sumTo (vaT l p i) p.2.1.length = l.getD i 0 * dot (p.1.getD i []) l := by
  have dl := hp.dl
  have hix : i < p.1.length := by omega
  have hl := (hp.d _ (List.getElem_mem hix)).1
  unfold dot
  rw [← sumTo_mul, getD_row hix, hl]
  refine sumTo_congr fun k _ => ?_
  simp only [vaT, dotF]
  rw [getD_row hix, Int.mul_assoc]

theorem vaF_eq {p : Prg} (hp : IsPrg p) (l : List Int) (d : Int) : sumTo (vaF p l d) p.2.1.length = vaNum p l d := by
  have dl := hp.dl
  have e1 : sumTo (vaF p l d) p.2.1.length = sumTo (fun i => 2 * d * dotF p.2.1 l i + l.getD i 0 * dot (p.1.getD i []) l) p.2.1.length := sumTo_congr fun i hi => by
    simp only [vaF, dotF]
    rw [vaS_eq hp l hi]
    congr 1
    rw [Int.mul_assoc (2 * p.2.1.getD i 0), Int.mul_assoc 2, Int.mul_assoc 2, Int.mul_left_comm d, Int.mul_comm d]
  rw [e1, sumTo_add, sumTo_mul]
  unfold vaNum formV dot
  rw [dl, Int.add_comm]

theorem vaT_abs {p : Prg} (hp : IsPrg p) {l : List Int} (hA : ∀ e ∈ l, e.natAbs ≤ 10000000) (i k : Nat) : (vaT l p i k).natAbs ≤ 10000000 * 20 * 10000000 := by
  refine mul_abs (mul_abs (getD_abs hA i) ?_) (getD_abs hA k)
  by_cases hi : i < p.1.length
  · rw [getD_row hi]
    exact getD_abs (fun e he => by have := (hp.d _ (List.getElem_mem hi)).2 e he; omega) k
  · simp [List.getD_eq_getElem?_getD, List.getElem?_eq_none (show p.1.length ≤ i by omega)]


def LeA (x : Int) (B : Nat) : Prop := x.natAbs ≤ B
theorem LeA.add {x y : Int} {A B : Nat} (h1 : LeA x A) (h2 : LeA y B) : LeA (x + y) (A + B) := by unfold LeA at *; omega
theorem LeA.i64 {x : Int} {A : Nat} (h : LeA x A) (hA : A < 9223372036854775808) : I64 x := abs_i64 h hA
theorem i64_succ {k n : Nat} (h : k ≤ n) (hn : n ≤ 5) : I64 ((k : Int) + 1) := by unfold I64; omega
theorem abs20 {x : Int} (h : -20 ≤ x ∧ x ≤ 20) : LeA x 20 := by unfold LeA; omega
theorem abs100 {x : Int} (h : -100 ≤ x ∧ x ≤ 100) : LeA x 100 := by unfold LeA; omega

theorem va_l2 {H0 H : Heap} {Q : Post} {L : List (Atom H0.next)} {vu u1 u2 u3 u4 : Value} {b : Nat} {p : Prg} {l : List Int} (h : Ab.Loc H0 L H) [RdV L [vu] RS l] [RdV L [u1] RSS p.1] [RdB L b [u1, u2, u3, u4]] (hp : IsPrg p) (hl : l.length = p.2.1.length) (hA : ∀ e ∈ l, e.natAbs ≤ 10000000)
    {i : Nat} (hic : i < p.2.1.length) {J : St [9, 10] → Heap → Prop} {c : Int} (hc : LeA c 60000000000000000) (hJ : J (.int .i64 (c + sumTo (vaT l p i) p.2.1.length), .int .i64 ((i + 1 : Nat) : Int), ()) H) :
    W.loop (S := St [9, 11]) (fun I2 s H => f38.l2 Q vu (.int .i64 (i : Nat)) (pt b 0) J I2 s.1 s.2.1 H) (.int .i64 c, .int .i64 0, ()) H := by
  have n1 := hp.n1; have nm := hp.nm; have dl := hp.dl
  have hil : i < l.length := by omega
  have hid : i < p.1.length := by omega
  have hrow := hp.d _ (List.getElem_mem hid)
  have hrl := hrow.1
  have n5 : p.2.1.length ≤ 5 := by omega
  refine W.for_rule p.2.1.length (fun k s H' => H' = H ∧ s = (.int .i64 (c + sumTo (vaT l p i) k), .int .i64 (k : Nat), ())) ⟨rfl, by simp only [sumTo, Int.add_zero]; rfl⟩ ?_
  rintro k s H2 J3 hk ⟨rfl, rfl⟩ hJ3
  refine Wl.len h (Wi.lssC (fun hlt2 => Wi.tru ?_) fun hge2 => Wi.fls ?_)
  · have hkl : k < l.length := by omega
    have hkd : k < p.1[i].length := by omega
    have hkn : k < p.2.1.length := by omega
    have hk5 : k ≤ 5 := by omega
    have s1 : LeA (sumTo (vaT l p i) k) (5 * (10000000 * 20 * 10000000)) := Nat.le_trans (sumTo_abs fun j _ => vaT_abs hp hA i j) (mul5 hk5)
    have t1 : LeA _ _ := vaT_abs hp hA i k
    have e1 : vaT l p i k = l[i] * p.1[i][k] * l[k] := by simp only [vaT]; rw [getD_at hil, getD_row hid, getD_at hkd, getD_at hkl]
    rw [e1] at t1
    have o1 : I64 (l[i] * p.1[i][k]) := abs_i64 (mul_abs (hA _ (List.getElem_mem hil)) (abs20 (hrow.2 _ (List.getElem_mem hkd)))) (by decide)
    refine Wl.atInt h hil fun _ => Wi.fieldAddr0 (Wl.get h rfl (Wl.at1 rfl h hid fun w hw => Wl.atIntH hw hkd fun _ => Wi.mul o1 (Wl.atInt h hkl fun _ => Wi.mul (t1.i64 (by decide)) (Wi.add (((hc.add s1).add t1).i64 (by decide)) ?_))))
    refine Wi.add (i64_succ hk5 (Nat.le_refl _)) (hJ3 _ _ hkn ⟨rfl, ?_⟩)
    simp only [sumTo]
    rw [e1, ← Int.add_assoc]
    rfl
  · have : k = p.2.1.length := by omega
    subst this
    exact Wi.add (i64_succ (show i ≤ 5 by omega) (Nat.le_refl _)) hJ


theorem vaTerm_abs {p : Prg} (hp : IsPrg p) {l : List Int} {d : Int} (hd : LeA d 10000) (hA : ∀ e ∈ l, e.natAbs ≤ 10000000) (i : Nat) : LeA (2 * p.2.1.getD i 0 * l.getD i 0 * d) (2 * 100 * 10000000 * 10000) :=
  mul_abs (mul_abs (mul_abs (by decide) (getD_abs (fun e he => abs100 (hp.c e he)) i)) (getD_abs hA i)) hd

theorem vaF_abs {p : Prg} (hp : IsPrg p) {l : List Int} {d : Int} (hd : LeA d 10000) (hA : ∀ e ∈ l, e.natAbs ≤ 10000000) {n : Nat} (hn : n ≤ 5) (h5 : p.2.1.length ≤ 5) : LeA (sumTo (vaF p l d) n) (5 * (2 * 100 * 10000000 * 10000 + 5 * (10000000 * 20 * 10000000))) :=
  Nat.le_trans (sumTo_abs fun i _ => (vaTerm_abs hp hd hA i).add (show LeA _ _ from Nat.le_trans (sumTo_abs fun j _ => vaT_abs hp hA i j) (mul5 h5))) (mul5 hn)

theorem fn38 {H0 : Heap} {Q : Post} {cs : List Value} {vx : Value} {p : Prg} {xs : List Frac} (hr : Has RPrg H0 cs p) (hx : Has RFS H0 [vx] xs) (hw : wPrg p ≤ 1048576) (hl : xs.length ≤ 1048576)
    (hQ : ∀ H', H0.Le H' → Q (.tuple #[.agg (frC (vaRes p xs).1).toArray, .int .i64 (vaRes p xs).2]) H') : Runs Tryz.prog 38 #[.agg cs.toArray, vx] H0 Q := by
  obtain ⟨u1, u2, u3, u4, rfl, r1, r2, r3, r4⟩ := hasPrg hr
  refine f38.enter ?_
  unfold f38.w
  have hz : ∀ H (a : Frac) c, H0.Le H → vaRes p xs = (a, c) → Q (.tuple #[.agg (frC a).toArray, .int .i64 c]) H := fun H a c l e => by
    have := hQ H l
    rw [e] at this
    exact this
  have h := ((((Loc.start H0).lent hx).lent r2).lent r1).lent hr
  refine Wl.box h fun H b h => Wl.new h fun H b2 h => Wl.getA h rfl (Wi.call (fn101 (h.rd (cs := [u1, u2, u3, u4])) (h.rd (cs := [vx])) hw hl (fun g H l => ?_) (fun hp hf g H l => ?_) (fun hp hf he g H l => ?_) fun hp hf he l d g H u f => ?_))
  · have h := h.to l
    simp only [gw]
    exact Wi.neqC (fun _ => Wi.tru (Wi.build (cells := frC (0, 0)) rfl (Wl.putA h rfl rfl rfl fun H h => Wl.getA h rfl (hz _ _ _ h.le (by simp only [vaRes, if_neg g]))))) fun e => absurd e (by decide)
  · have h := h.to l
    simp only [gw]
    exact Wi.neqC (fun _ => Wi.tru (Wi.build (cells := frC (0, 0)) rfl (Wl.putA h rfl rfl rfl fun H h => Wl.getA h rfl (hz _ _ _ h.le (by simp only [vaRes, if_pos (And.intro hp hf), if_neg g]))))) fun e => absurd e (by decide)
  · have h := h.to l
    simp only [gw]
    exact Wi.neqC (fun _ => Wi.tru (Wi.build (cells := frC (0, 0)) rfl (Wl.putA h rfl rfl rfl fun H h => Wl.getA h rfl (hz _ _ _ h.le (by simp only [vaRes, if_pos (And.intro hp hf), if_pos he, g]))))) fun e => absurd e (by decide)
  have h := h.add f
  obtain ⟨f1, f2, f3, f4⟩ := tog_facts hf (by omega) g
  have hll : l.length = p.2.1.length := f1.trans he
  have fa := abs7 f4
  have n1 := hp.n1; have nm := hp.nm; have dl := hp.dl
  have n5 : p.2.1.length ≤ 5 := by omega
  have hdA : LeA d 10000 := by unfold LeA; omega
  obtain ⟨b1, b2', b3, b4⟩ := va_bounds hp hll ⟨f2, f3⟩ fa
  have hres : vaRes p xs = fracT (vaNum p l d) (2 * d * d) := by simp only [vaRes, if_pos (And.intro hp hf), if_pos he, g]
  simp only [gw]
  refine Wi.neqC (fun e => absurd rfl e) fun _ => Wi.fls ?_
  refine W.for_rule p.2.1.length (fun i s H' => H' = H ∧ s = (.int .i64 (sumTo (vaF p l d) i), .int .i64 (i : Nat), ())) ⟨rfl, rfl⟩ ?_
  rintro i s H2 J hi ⟨rfl, rfl⟩ hJ
  refine Wl.len h (Wi.lssC (fun hlt => Wi.tru ?_) fun hge => Wi.fls ?_)
  · have hic : i < p.2.1.length := by omega
    have hil : i < l.length := by omega
    have t1 := vaTerm_abs hp hdA fa i
    have s1 := vaF_abs hp hdA fa (n := i) (by omega) n5
    rw [getD_at hic, getD_at hil] at t1
    have k1 := abs100 (hp.c _ (List.getElem_mem hic))
    have o1 : I64 (2 * p.2.1[i]) := abs_i64 (mul_abs (A := 2) (by decide) k1) (by decide)
    have o2 : I64 (2 * p.2.1[i] * l[i]) := abs_i64 (mul_abs (mul_abs (A := 2) (by decide) k1) (fa _ (List.getElem_mem hil))) (by decide)
    refine Wi.fieldAddr0 (Wl.get h rfl (Wl.atInt h hic fun _ => Wi.mul o1 (Wl.atInt h hil fun _ => Wi.mul o2 (Wi.mul (t1.i64 (by decide)) (Wi.add ((s1.add t1).i64 (by decide)) ?_)))))
    refine va_l2 (u1 := u1) (u2 := u2) (u3 := u3) (u4 := u4) h hp hll fa hic (Nat.le_trans (s1.add t1) (by decide)) ?_
    have := hJ (.int .i64 (sumTo (vaF p l d) (i + 1)), .int .i64 ((i + 1 : Nat) : Int), ()) H2 hic ⟨rfl, rfl⟩
    simp only [sumTo, vaF] at this
    rw [getD_at hic, getD_at hil, ← Int.add_assoc] at this
    exact this
  · have : i = p.2.1.length := by omega
    subst this
    rw [vaF_eq hp]
    have hd0 : 2 * d * d ≠ 0 := by
      have : 0 < 2 * d * d := Int.mul_pos (by omega) (by omega)
      omega
    have o1 : B64 (vaNum p l d) := by unfold vaNum B64; omega
    refine Wi.mul (by unfold I64; omega) (Wi.mul (by unfold I64; omega) (Wi.call (fn89 o1 (by unfold B64; omega) hd0 fun H l1 => Wi.call (fn88 fun H2 l2 => ?_))))
    have h := h.to (l1.trans l2)
    simp only [g11, g12]
    refine Wl.new h fun H b3 h => Wl.putA (vs := frC _) h rfl rfl rfl fun H h => Wl.getA h rfl (Wl.putA (vs := frC _) h rfl rfl rfl fun H h => Wl.getA h rfl ?_)
    have := hQ _ h.le
    rw [hres] at this
    exact this

end Go.Proofs.YtdchibdcfdbcpaaGreat

/-! The contracts of SlopesAt, the program's and the reference's. No condition. -/
namespace Go.Proofs.YtdchibdcfdbcpaaGreat
open Go.Ab

/- loop.example/g01343/impl.SlopesAt -/
def f39.w (Q : Post) (p_0 : Value) (x_1 : Value) (H : Heap) : Prop :=
  W.box p_0 27 H fun v1 H =>
  W.getN 4 v1 H fun v2 H =>
  W.call Tryz.prog (.func (.func 90) #[] #[]) #[v2, x_1, (.int .i64 10000), (.int .i64 10000000)] H fun v3 H =>
  W.extract 0 v3 H fun v4 H =>
  W.extract 1 v3 H fun v5 H =>
  W.extract 2 v3 H fun v6 H =>
  W.bin .neq v6 (.int .i64 0) H fun v7 H =>
  W.cond v7 H
  (fun H => Q (.tuple #[(.slice none 0 0), v6]) H)
  (fun H => W.getN 4 v1 H fun v8 H =>
   W.call Tryz.prog (.func (.func 87) #[] #[]) #[v8, v4, v5] H fun v9 H =>
   W.call Tryz.prog (.func (.func 65) #[] #[]) #[v9, v5] H fun v10 H =>
   W.extract 0 v10 H fun v11 H =>
   W.extract 1 v10 H fun v12 H =>
   Q (.tuple #[v11, v12]) H)
theorem f39.enter {Q : Post} {p_0 : Value} {x_1 : Value} {H : Heap} (h : f39.w Q p_0 x_1 H) : Runs Tryz.prog 39 #[p_0, x_1] H Q :=
  fn_enter (ann := []) (by kernel_rfl) Tryz.func39 rfl (by kernel_rfl) h (by kernel_rfl)

/- loop.example/g01343/spec.SlopesAt -/
def f40.l2 (Q : Post) (v4 : Value) (v1 : Value) (i_10 : Value) (v5 : Value) (out_9 : Value) (I1 : St [9, 10] → Heap → Prop) (I2 : St [11, 12] → Heap → Prop) (sum_11 : Value) (k_12 : Value) (H : Heap) : Prop :=
  W.len v4 H fun v16 H =>
  W.bin .lss k_12 v16 H fun v17 H =>
  W.cond v17 H
  (fun H => W.fieldAddr 0 v1 H fun v18 H =>
   W.get v18 H fun v19 H =>
   W.indexAddr 1 v19 i_10 H fun v20 H =>
   W.get v20 H fun v21 H =>
   W.indexAddr 1 v21 k_12 H fun v22 H =>
   W.get v22 H fun v23 H =>
   W.indexAddr 1 v4 k_12 H fun v24 H =>
   W.get v24 H fun v25 H =>
   W.bin .mul v23 v25 H fun v26 H =>
   W.bin .add sum_11 v26 H fun v27 H =>
   W.bin .add k_12 (.int .i64 1) H fun v28 H =>
   I2 (v27, v28, ()) H)
  (fun H => W.call Tryz.prog (.func (.func 89) #[] #[]) #[sum_11, v5] H fun v29 H =>
   W.call Tryz.prog (.func (.func 88) #[] #[]) #[v29] H fun v30 H =>
   W.extract 0 v30 H fun v31 H =>
   W.extract 1 v30 H fun v32 H =>
   W.new [(.int .i64 0), (.int .i64 0)] 34 H fun v33 H =>
   W.putN 2 v33 v31 H fun _ H =>
   W.bin .neq v32 (.int .i64 0) H fun v34 H =>
   W.cond v34 H
   (fun H => Q (.tuple #[(.slice none 0 0), v32]) H)
   (fun H => W.getN 2 v33 H fun v35 H =>
    W.lit 1 [(.int .i64 0), (.int .i64 0)] 34 [(0, 2, v35)] H fun v36 H =>
    W.append 2 34 out_9 v36 H fun v37 H =>
    W.bin .add i_10 (.int .i64 1) H fun v38 H =>
    I1 (v37, v38, ()) H))
def f40.l1 (Q : Post) (v4 : Value) (v1 : Value) (v5 : Value) (I1 : St [9, 10] → Heap → Prop) (out_9 : Value) (i_10 : Value) (H : Heap) : Prop :=
  W.len v4 H fun v9 H =>
  W.bin .lss i_10 v9 H fun v10 H =>
  W.cond v10 H
  (fun H => W.fieldAddr 1 v1 H fun v11 H =>
   W.get v11 H fun v12 H =>
   W.indexAddr 1 v12 i_10 H fun v13 H =>
   W.get v13 H fun v14 H =>
   W.bin .mul v14 v5 H fun v15 H =>
   W.loop (S := St [11, 12]) (fun I2 s H => f40.l2 Q v4 v1 i_10 v5 out_9 I1 I2 s.1 s.2.1 H) (v15, (.int .i64 0), ()) H)
  (fun H => Q (.tuple #[out_9, (.int .i64 0)]) H)
def f40.w (Q : Post) (p_0 : Value) (x_1 : Value) (H : Heap) : Prop :=
  W.box p_0 27 H fun v1 H =>
  W.getN 4 v1 H fun v2 H =>
  W.call Tryz.prog (.func (.func 101) #[] #[]) #[v2, x_1] H fun v3 H =>
  W.extract 0 v3 H fun v4 H =>
  W.extract 1 v3 H fun v5 H =>
  W.extract 2 v3 H fun v6 H =>
  W.bin .neq v6 (.int .i64 0) H fun v7 H =>
  W.cond v7 H
  (fun H => Q (.tuple #[(.slice none 0 0), v6]) H)
  (fun H => W.lit 0 [(.int .i64 0), (.int .i64 0)] 34 [] H fun v8 H =>
   W.loop (S := St [9, 10]) (fun I1 s H => f40.l1 Q v4 v1 v5 I1 s.1 s.2.1 H) (v8, (.int .i64 0), ()) H)
theorem f40.enter {Q : Post} {p_0 : Value} {x_1 : Value} {H : Heap} (h : f40.w Q p_0 x_1 H) : Runs Tryz.prog 40 #[p_0, x_1] H Q :=
  fn_enter (ann := [(6, [9, 10]), (10, [11, 12])]) (by kernel_rfl) Tryz.func40 rfl (by kernel_rfl) h (by kernel_rfl)


/-- The slopes of a program, times the denominator. -/
def slopesD (p : Prg) (d : Int) (x : List Int) : List Int := (List.range p.1.length).map fun i => p.2.1.getD i 0 * d + dot (p.1.getD i []) x

theorem slopesD_at (p : Prg) (d : Int) (x : List Int) {i : Nat} (hi : i < (slopesD p d x).length) : (slopesD p d x)[i] = p.2.1.getD i 0 * d + dot (p.1.getD i []) x := by simp [slopesD]

theorem sl_abs {p : Prg} (hp : IsPrg p) {l : List Int} {d : Int} (hd : LeA d 10000) (hA : ∀ e ∈ l, e.natAbs ≤ 10000000) (i : Nat) : LeA (p.2.1.getD i 0 * d) 1000000 ∧ LeA (dot (p.1.getD i []) l) 1000000000 := by
  have hr : ∀ r ∈ p.1, r.length ≤ 5 ∧ ∀ e ∈ r, e.natAbs ≤ 20 := fun r hr => ⟨by have := (hp.d r hr).1; have := hp.nm; omega, fun e he => abs20 ((hp.d r hr).2 e he)⟩
  exact ⟨Nat.le_trans (mul_abs (getD_abs (fun e he => abs100 (hp.c e he)) i) hd) (by decide), Nat.le_trans (row_dot hr hA i) (by decide)⟩

theorem slopesD_abs {p : Prg} (hp : IsPrg p) {l : List Int} {d : Int} (hd : LeA d 10000) (hA : ∀ e ∈ l, e.natAbs ≤ 10000000) : ∀ e ∈ slopesD p d l, B64 e := fun e he => by
  simp only [slopesD, List.mem_map] at he
  obtain ⟨i, _, rfl⟩ := he
  obtain ⟨h1, h2⟩ := sl_abs hp hd hA i
  have := h1.add h2
  unfold LeA at this
  unfold B64
  omega

theorem fnD87 {H0 : Heap} {Q : Post} {cs : List Value} {vx : Value} {p : Prg} {x : List Int} {d : Int} (hr : Has RPrg H0 cs p) (hx : Has RS H0 [vx] x) (hp : IsPrg p) (hl : x.length = p.2.1.length) (hd : LeA d 10000) (hX : ∀ e ∈ x, e.natAbs ≤ 10000000)
    (hQ : ∀ H' u, Fresh RS H0 [u] (slopesD p d x) H' → Q u H') : Runs Tryz.prog 87 #[.agg cs.toArray, vx, .int .i64 d] H0 Q := by
  obtain ⟨u1, u2, u3, u4, rfl, r1, r2, r3, r4⟩ := hasPrg hr
  have n1 := hp.n1; have nm := hp.nm; have dl := hp.dl
  refine f87.enter ?_
  unfold f87.w
  have h := (((Loc.start H0).lent r1).lent r2).lent hx
  refine Wl.box h fun H b h => Wi.fieldAddr0 (Wl.get h rfl (Wl.len h ?_))
  have h := h.nilG Rd.int 2
  refine W.for_rule p.1.length (fun i s H => ∃ u, s = (u, .int .i64 (i : Nat), ()) ∧ Ab.Loc H0 [.grow Rd.int 2 u ((List.range i).map fun i => p.2.1.getD i 0 * d + dot (p.1.getD i []) x), .box b [u1, u2, u3, u4], .lent RS [vx] x, .lent RS [u2] p.2.1, .lent RSS [u1] p.1] H) ⟨_, rfl, h⟩ ?_
  rintro i s H J hi ⟨u, rfl, h⟩ hJ
  refine Wi.lssC (fun hlt => Wi.tru ?_) fun hge => Wi.fls ?_
  · have hix : i < p.1.length := by omega
    have hic : i < p.2.1.length := by omega
    have hrow := hp.d _ (List.getElem_mem hix)
    have hda : ∀ e ∈ p.1[i], e.natAbs ≤ 20 := fun e he => abs20 (hrow.2 e he)
    obtain ⟨s1, s2⟩ := sl_abs hp hd hX i
    have e : p.2.1.getD i 0 * d + dot (p.1.getD i []) x = p.2.1[i] * d + dot p.1[i] x := by rw [getD_at hic, getD_row hix]
    have hn := (s1.add s2).i64 (by decide)
    rw [e] at hn
    rw [getD_at hic] at s1
    refine Wl.at1 rfl h hix fun w hw => Wi.fieldAddr0 (Wl.get h rfl (Wl.atInt h hic fun _ => Wi.mul (s1.i64 (by decide)) (Wi.callQ (fn67 hw (h.rd (cs := [vx])) (by omega) hda hX (by omega) ⟨.refl _, Wi.add hn ?_⟩))))
    refine Wl.pushP (r := Rd.int) (x := p.2.1[i] * d + dot p.1[i] x) rfl rfl rfl (fun _ => ⟨rfl, rfl, hn⟩) h (by simp; omega) fun H u' h => Wi.add (by unfold I64; omega) (hJ _ _ hix ⟨u', rfl, ?_⟩)
    rw [List.range_succ, List.map_append]
    simp only [List.map_cons, List.map_nil]
    rw [e]
    exact h
  · have : i = p.1.length := by omega
    subst this
    exact hQ _ _ ((h.asData (i := 0) rfl).ret (i := 0) rfl)

noncomputable def saRes (p : Prg) (xs : List Frac) : List Frac × Int := open Classical in
  if IsPrg p ∧ Frs xs then (if xs.length = p.2.1.length then (match tog 10000 10000000 xs with | none => ([], 3) | some (l, d) => frAll (slopesD p d l) d) else ([], 2)) else ([], 1)

theorem fn39 {H0 : Heap} {Q : Post} {cs : List Value} {vx : Value} {p : Prg} {xs : List Frac} (hr : Has RPrg H0 cs p) (hx : Has RFS H0 [vx] xs) (hw : wPrg p ≤ 1048576) (hl : xs.length ≤ 1048576)
    (hQ : ∀ H' u, Fresh RFS H0 [u] (saRes p xs).1 H' → Q (.tuple #[u, .int .i64 (saRes p xs).2]) H') : Runs Tryz.prog 39 #[.agg cs.toArray, vx] H0 Q := by
  obtain ⟨u1, u2, u3, u4, rfl, r1, r2, r3, r4⟩ := hasPrg hr
  refine f39.enter ?_
  unfold f39.w
  have hz : ∀ H c, H0.Le H → saRes p xs = ([], c) → Q (.tuple #[.slice none 0 0, .int .i64 c]) H := fun H c l e => by
    have := hQ H (.slice none 0 0) (by rw [e]; exact fresh_nil l)
    rw [e] at this
    exact this
  have h := ((((Loc.start H0).lent hx).lent r2).lent r1).lent hr
  refine Wl.box h fun H b h => Wl.getA h rfl (Wi.call (fn90 (h.rd (cs := [u1, u2, u3, u4])) (h.rd (cs := [vx])) hw hl (by omega) (by omega) (fun g H l => ?_) (fun hp hf g H l => ?_) (fun hp hf he g H l => ?_) fun hp hf he l d g H u f => ?_))
  · simp only [gw]
    exact Wi.neqC (fun _ => Wi.tru (hz _ _ (h.to l).le (by simp only [saRes, if_neg g]))) fun e => absurd e (by decide)
  · simp only [gw]
    exact Wi.neqC (fun _ => Wi.tru (hz _ _ (h.to l).le (by simp only [saRes, if_pos (And.intro hp hf), if_neg g]))) fun e => absurd e (by decide)
  · simp only [gw]
    exact Wi.neqC (fun _ => Wi.tru (hz _ _ (h.to l).le (by simp only [saRes, if_pos (And.intro hp hf), if_pos he, g]))) fun e => absurd e (by decide)
  have h := h.add f
  obtain ⟨f1, f2, f3, f4⟩ := tog_facts hf (by omega) g
  have fa := abs7 f4
  have n1 := hp.n1; have nm := hp.nm; have dl := hp.dl
  have hdA : LeA d 10000 := by unfold LeA; omega
  have hres : saRes p xs = frAll (slopesD p d l) d := by simp only [saRes, if_pos (And.intro hp hf), if_pos he, g]
  simp only [gw]
  refine Wi.neqC (fun e => absurd rfl e) fun _ => Wi.fls (Wl.getA h rfl (Wi.call (fnD87 (h.rd (cs := [u1, u2, u3, u4])) (h.rd (cs := [u])) hp (f1.trans he) hdA fa fun H w g2 => ?_)))
  have h := h.add g2
  refine Wi.call (fn65 (h.rd (cs := [w])) (slopesD_abs hp hdA fa) (by unfold B64; omega) (by omega) (by simp [slopesD]; omega) fun H z g3 => ?_)
  have h := h.add g3
  simp only [gw]
  have := hQ H z (by rw [hres]; exact h.ret (i := 0) rfl)
  rw [hres] at this
  exact this

theorem sa_l2 {H0 H : Heap} {Q : Post} {L : List (Atom H0.next)} {vu u1 u2 u3 u4 vo : Value} {b : Nat} {p : Prg} {l : List Int} {d : Int} (h : Ab.Loc H0 L H) [RdV L [vu] RS l] [RdV L [u1] RSS p.1] [RdB L b [u1, u2, u3, u4]] (hp : IsPrg p) (hl : l.length = p.2.1.length) (hd : LeA d 10000) (hA : ∀ e ∈ l, e.natAbs ≤ 10000000)
    {i : Nat} (hic : i < p.2.1.length) {J : St [9, 10] → Heap → Prop}
    (hK : W.call Tryz.prog (.func (.func 89) #[] #[]) #[.int .i64 (p.2.1.getD i 0 * d + dot (p.1.getD i []) l), .int .i64 d] H fun v29 H => W.call Tryz.prog (.func (.func 88) #[] #[]) #[v29] H fun v30 H => W.extract 0 v30 H fun v31 H => W.extract 1 v30 H fun v32 H => W.new [.int .i64 0, .int .i64 0] 34 H fun v33 H => W.putN 2 v33 v31 H fun _ H =>
      W.bin .neq v32 (.int .i64 0) H fun v34 H => W.cond v34 H (fun H => Q (.tuple #[.slice none 0 0, v32]) H) fun H => W.getN 2 v33 H fun v35 H => W.lit 1 [.int .i64 0, .int .i64 0] 34 [(0, 2, v35)] H fun v36 H => W.append 2 34 vo v36 H fun v37 H => W.bin .add (.int .i64 (i : Nat)) (.int .i64 1) H fun v38 H => J (v37, v38, ()) H) :
    W.loop (S := St [11, 12]) (fun I2 s H => f40.l2 Q vu (pt b 0) (.int .i64 (i : Nat)) (.int .i64 d) vo J I2 s.1 s.2.1 H) (.int .i64 (p.2.1.getD i 0 * d), .int .i64 0, ()) H := by
  have n1 := hp.n1; have nm := hp.nm; have dl := hp.dl
  have hid : i < p.1.length := by omega
  have hrow := hp.d _ (List.getElem_mem hid)
  have hrl := hrow.1
  have n5 : p.2.1.length ≤ 5 := by omega
  obtain ⟨s1, s2⟩ := sl_abs hp hd hA i
  refine W.for_rule p.2.1.length (fun k s H' => H' = H ∧ s = (.int .i64 (p.2.1.getD i 0 * d + sumTo (dotF (p.1.getD i []) l) k), .int .i64 (k : Nat), ())) ⟨rfl, by simp only [sumTo, Int.add_zero]; rfl⟩ ?_
  rintro k s H2 J3 hk ⟨rfl, rfl⟩ hJ3
  refine Wl.len h (Wi.lssC (fun hlt2 => Wi.tru ?_) fun hge2 => Wi.fls ?_)
  · have hkl : k < l.length := by omega
    have hkd : k < p.1[i].length := by omega
    have hkn : k < p.2.1.length := by omega
    have t : ∀ j, LeA (dotF (p.1.getD i []) l j) (20 * 10000000) := fun j => mul_abs (by rw [getD_row hid]; exact getD_abs (fun e he => abs20 (hrow.2 e he)) j) (getD_abs hA j)
    have s3 : LeA (sumTo (dotF (p.1.getD i []) l) k) (5 * (20 * 10000000)) := Nat.le_trans (sumTo_abs fun j _ => t j) (mul5 (by omega))
    have t1 := t k
    have e1 : dotF (p.1.getD i []) l k = p.1[i][k] * l[k] := by simp only [dotF]; rw [getD_row hid, getD_at hkd, getD_at hkl]
    have o2 := ((s1.add s3).add t1).i64 (by decide)
    have o1 := t1.i64 (by decide)
    rw [e1] at o1 o2
    refine Wi.fieldAddr0 (Wl.get h rfl (Wl.at1 rfl h hid fun w hw => Wl.atIntH hw hkd fun _ => Wl.atInt h hkl fun _ => Wi.mul o1 (Wi.add o2 (Wi.add (i64_succ (show k ≤ 5 by omega) (Nat.le_refl _)) (hJ3 _ _ hkn ⟨rfl, ?_⟩)))))
    simp only [sumTo]
    rw [e1, ← Int.add_assoc]
    rfl
  · have : k = p.2.1.length := by omega
    subst this
    have e : sumTo (dotF (p.1.getD i []) l) p.2.1.length = dot (p.1.getD i []) l := by unfold dot; rw [getD_row hid, hrl]
    rw [e]
    exact hK

theorem fn40 {H0 : Heap} {Q : Post} {cs : List Value} {vx : Value} {p : Prg} {xs : List Frac} (hr : Has RPrg H0 cs p) (hx : Has RFS H0 [vx] xs) (hw : wPrg p ≤ 1048576) (hl : xs.length ≤ 1048576)
    (hQ : ∀ H' u, Fresh RFS H0 [u] (saRes p xs).1 H' → Q (.tuple #[u, .int .i64 (saRes p xs).2]) H') : Runs Tryz.prog 40 #[.agg cs.toArray, vx] H0 Q := by
  obtain ⟨u1, u2, u3, u4, rfl, r1, r2, r3, r4⟩ := hasPrg hr
  refine f40.enter ?_
  unfold f40.w
  have hz : ∀ H c, H0.Le H → saRes p xs = ([], c) → Q (.tuple #[.slice none 0 0, .int .i64 c]) H := fun H c l e => by
    have := hQ H (.slice none 0 0) (by rw [e]; exact fresh_nil l)
    rw [e] at this
    exact this
  have h := ((((Loc.start H0).lent hx).lent r2).lent r1).lent hr
  refine Wl.box h fun H b h => Wl.getA h rfl (Wi.call (fn101 (h.rd (cs := [u1, u2, u3, u4])) (h.rd (cs := [vx])) hw hl (fun g H l => ?_) (fun hp hf g H l => ?_) (fun hp hf he g H l => ?_) fun hp hf he l d g H u f => ?_))
  · simp only [gw]
    exact Wi.neqC (fun _ => Wi.tru (hz _ _ (h.to l).le (by simp only [saRes, if_neg g]))) fun e => absurd e (by decide)
  · simp only [gw]
    exact Wi.neqC (fun _ => Wi.tru (hz _ _ (h.to l).le (by simp only [saRes, if_pos (And.intro hp hf), if_neg g]))) fun e => absurd e (by decide)
  · simp only [gw]
    exact Wi.neqC (fun _ => Wi.tru (hz _ _ (h.to l).le (by simp only [saRes, if_pos (And.intro hp hf), if_pos he, g]))) fun e => absurd e (by decide)
  have h := h.add f
  obtain ⟨f1, f2, f3, f4⟩ := tog_facts hf (by omega) g
  have hll : l.length = p.2.1.length := f1.trans he
  have fa := abs7 f4
  have n1 := hp.n1; have nm := hp.nm; have dl := hp.dl
  have hdA : LeA d 10000 := by unfold LeA; omega
  have hsl : (slopesD p d l).length = p.2.1.length := by simp [slopesD]; exact dl
  have hres : saRes p xs = frAll (slopesD p d l) d := by simp only [saRes, if_pos (And.intro hp hf), if_pos he, g]
  simp only [gw]
  refine Wi.neqC (fun e => absurd rfl e) fun _ => Wi.fls (Wl.lit0 RFrac (ty := 34) rfl h fun H y h => ?_)
  refine W.for_rule p.2.1.length (fun i s H => ∃ y, s = (y, .int .i64 (i : Nat), ()) ∧ Ab.Loc H0 [.grow RFrac 34 y (((slopesD p d l).take i).map fun n => (fracT n d).1), .data RS [u] l, .box b [u1, u2, u3, u4], .lent RPrg [u1, u2, u3, u4] p, .lent RSS [u1] p.1, .lent RS [u2] p.2.1, .lent RFS [vx] xs] H ∧ ∀ j (hj : j < (slopesD p d l).length), j < i → (fracT (slopesD p d l)[j] d).2 = 0) ⟨_, rfl, h, fun j _ hj => by omega⟩ ?_
  rintro i s H J hi ⟨y, rfl, h, hok⟩ hJ
  refine Wl.len h (Wi.lssC (fun hlt => Wi.tru ?_) fun hge => Wi.fls ?_)
  · have hic : i < p.2.1.length := by omega
    have his : i < (slopesD p d l).length := by omega
    obtain ⟨s1, s2⟩ := sl_abs hp hdA fa i
    have s1' := s1.i64 (by decide)
    rw [getD_at hic] at s1'
    refine Wi.fieldAddr0 (Wl.get h rfl (Wl.atInt h hic fun _ => Wi.mul s1' ?_))
    rw [← getD_at hic]
    have hsB : B64 (p.2.1.getD i 0 * d + dot (p.1.getD i []) l) := by
      have := s1.add s2
      unfold LeA at this
      unfold B64
      omega
    refine sa_l2 (u1 := u1) (u2 := u2) (u3 := u3) (u4 := u4) h hp hll hdA fa hic (Wi.call (fn89 hsB (by unfold B64; omega) (by omega) fun H l1 => Wi.call (fn88 fun H l2 => ?_)))
    have h := h.to (l1.trans l2)
    have ht : (if isFr 1000000000 (frac (p.2.1.getD i 0 * d + dot (p.1.getD i []) l) d) = true then (frac (p.2.1.getD i 0 * d + dot (p.1.getD i []) l) d, 0) else ((0, 0), 3) : Frac × Int) = fracT (slopesD p d l)[i] d := by rw [slopesD_at]; rfl
    rw [ht]
    simp only [g11, g12]
    refine Wl.new h fun H b3 h => Wl.putA (vs := frC _) h rfl rfl rfl fun H h => Wi.neqC (fun hne => Wi.tru ?_) fun he2 => Wi.fls (Wl.getA h rfl ?_)
    · obtain ⟨e1, e2⟩ := frAll_bad his hne
      rw [e2]
      exact hz _ _ h.le (hres.trans e1)
    · refine Wl.pushP (r := RFrac) (x := (fracT (slopesD p d l)[i] d).1) rfl rfl rfl (frac_rel (fracT_i64 _ _)) h.tl (by simp; omega) fun H u' h => Wi.add (i64_succ (show i ≤ 5 by omega) (Nat.le_refl _)) (hJ _ _ hic ⟨u', rfl, ?_, fun j hj hji => ?_⟩)
      · rw [List.take_succ_eq_append_getElem his, List.map_append]
        exact h
      · by_cases e : j = i
        · subst e; exact he2
        · exact hok j hj (by omega)
  · have : i = p.2.1.length := by omega
    subst this
    rw [← hsl, List.take_length] at h
    have e := frAll_ok fun j hj => hok j hj (by omega)
    have := hQ H y (by rw [hres, e]; exact (h.asData (i := 0) rfl).ret (i := 0) rfl)
    rw [hres, e] at this
    exact this

end Go.Proofs.YtdchibdcfdbcpaaGreat
