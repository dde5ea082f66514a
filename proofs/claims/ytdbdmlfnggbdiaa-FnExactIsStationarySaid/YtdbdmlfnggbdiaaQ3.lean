/- The contract of the reference's IsPlace. No condition. -/
import Derived.Test.YtdbdmlfnggbdiaaQ2
import Derived.Test.YtdbdmlfnggbdiaaP2
namespace Go.Proofs.Ytdbdmlfnggbdiaa
open Go.Ab

/- loop.example/g01343/spec.l09Fracs -/
def f54.l2 (Q : Post) (y_2 : Value) (x_1 : Value) (v1 : Value) (m_3 : Value) (I2 : St [10] → Heap → Prop) (i_10 : Value) (H : Heap) : Prop :=
  W.len y_2 H fun v12 H =>
  W.bin .lss i_10 v12 H fun v13 H =>
  W.cond v13 H
  (fun H => W.indexAddr 2 y_2 i_10 H fun v14 H =>
   W.getN 2 v14 H fun v15 H =>
   W.call Try.prog (.func (.func 95) #[] #[]) #[v15] H fun v16 H =>
   W.un .not v16 H fun v17 H =>
   W.cond v17 H
   (fun H => Q (.int .i64 1) H)
   (fun H => W.bin .add i_10 (.int .i64 1) H fun v18 H =>
    I2 (v18, ()) H))
  (fun H => W.len x_1 H fun v19 H =>
   W.fieldAddr 1 v1 H fun v20 H =>
   W.get v20 H fun v21 H =>
   W.len v21 H fun v22 H =>
   W.bin .neq v19 v22 H fun v23 H =>
   W.guarded v23 false (fun H k => k y_2 H) H fun v24 H =>
   W.guarded v23 false (fun H k => W.len v24 H k) H fun v25 H =>
   W.guarded v23 false (fun H k => k m_3 H) H fun v26 H =>
   W.guarded v23 false (fun H k => W.bin .neq v25 v26 H k) H fun v27 H =>
   W.pick v23 (.bool true) v27 H fun v28 H =>
   W.cond v28 H
   (fun H => Q (.int .i64 2) H)
   (fun H => Q (.int .i64 0) H))
def f54.l1 (Q : Post) (x_1 : Value) (y_2 : Value) (v1 : Value) (m_3 : Value) (I1 : St [9] → Heap → Prop) (i_9 : Value) (H : Heap) : Prop :=
  W.len x_1 H fun v5 H =>
  W.bin .lss i_9 v5 H fun v6 H =>
  W.cond v6 H
  (fun H => W.indexAddr 2 x_1 i_9 H fun v7 H =>
   W.getN 2 v7 H fun v8 H =>
   W.call Try.prog (.func (.func 95) #[] #[]) #[v8] H fun v9 H =>
   W.un .not v9 H fun v10 H =>
   W.cond v10 H
   (fun H => Q (.int .i64 1) H)
   (fun H => W.bin .add i_9 (.int .i64 1) H fun v11 H =>
    I1 (v11, ()) H))
  (fun H => W.loop (S := St [10]) (fun I2 s H => f54.l2 Q y_2 x_1 v1 m_3 I2 s.1 H) ((.int .i64 0), ()) H)
def f54.w (Q : Post) (p_0 : Value) (x_1 : Value) (y_2 : Value) (m_3 : Value) (H : Heap) : Prop :=
  W.box p_0 39 H fun v1 H =>
  W.getN 4 v1 H fun v2 H =>
  W.call Try.prog (.func (.func 84) #[] #[]) #[v2] H fun v3 H =>
  W.un .not v3 H fun v4 H =>
  W.cond v4 H
  (fun H => Q (.int .i64 1) H)
  (fun H => W.loop (S := St [9]) (fun I1 s H => f54.l1 Q x_1 y_2 v1 m_3 I1 s.1 H) ((.int .i64 0), ()) H)
theorem f54.enter {Q : Post} {p_0 : Value} {x_1 : Value} {y_2 : Value} {m_3 : Value} {H : Heap} (h : f54.w Q p_0 x_1 y_2 m_3 H) : Runs Try.prog 54 #[p_0, x_1, y_2, m_3] H Q :=
  fn_enter (ann := [(4, [9]), (9, [10])]) (by kernel_rfl) Try.func54 rfl (by kernel_rfl) h (by kernel_rfl)

/- loop.example/g01343/spec.IsPlace -/
def f18.l3 (Q : Post) (v7 : Value) (v1 : Value) (j_11 : Value) (v8 : Value) (I2 : St [11] → Heap → Prop) (I3 : St [12, 13] → Heap → Prop) (sum_12 : Value) (k_13 : Value) (H : Heap) : Prop :=
  W.len v7 H fun v21 H =>
  W.bin .lss k_13 v21 H fun v22 H =>
  W.cond v22 H
  (fun H => W.fieldAddr 2 v1 H fun v23 H =>
   W.get v23 H fun v24 H =>
   W.indexAddr 1 v24 j_11 H fun v25 H =>
   W.get v25 H fun v26 H =>
   W.indexAddr 1 v26 k_13 H fun v27 H =>
   W.get v27 H fun v28 H =>
   W.indexAddr 1 v7 k_13 H fun v29 H =>
   W.get v29 H fun v30 H =>
   W.bin .mul v28 v30 H fun v31 H =>
   W.bin .add sum_12 v31 H fun v32 H =>
   W.bin .add k_13 (.int .i64 1) H fun v33 H =>
   I3 (v32, v33, ()) H)
  (fun H => W.fieldAddr 3 v1 H fun v34 H =>
   W.get v34 H fun v35 H =>
   W.indexAddr 1 v35 j_11 H fun v36 H =>
   W.get v36 H fun v37 H =>
   W.bin .mul v37 v8 H fun v38 H =>
   W.bin .lss sum_12 v38 H fun v39 H =>
   W.cond v39 H
   (fun H => Q (.tuple #[(.bool false), (.int .i64 0)]) H)
   (fun H => W.bin .add j_11 (.int .i64 1) H fun v40 H =>
    I2 (v40, ()) H))
def f18.l2 (Q : Post) (v1 : Value) (v7 : Value) (v8 : Value) (I2 : St [11] → Heap → Prop) (j_11 : Value) (H : Heap) : Prop :=
  W.fieldAddr 3 v1 H fun v17 H =>
  W.get v17 H fun v18 H =>
  W.len v18 H fun v19 H =>
  W.bin .lss j_11 v19 H fun v20 H =>
  W.cond v20 H
  (fun H => W.loop (S := St [12, 13]) (fun I3 s H => f18.l3 Q v7 v1 j_11 v8 I2 I3 s.1 s.2.1 H) ((.int .i64 0), (.int .i64 0), ()) H)
  (fun H => Q (.tuple #[(.bool true), (.int .i64 0)]) H)
def f18.l1 (Q : Post) (v7 : Value) (v1 : Value) (v8 : Value) (I1 : St [10] → Heap → Prop) (i_10 : Value) (H : Heap) : Prop :=
  W.len v7 H fun v11 H =>
  W.bin .lss i_10 v11 H fun v12 H =>
  W.cond v12 H
  (fun H => W.indexAddr 1 v7 i_10 H fun v13 H =>
   W.get v13 H fun v14 H =>
   W.bin .lss v14 (.int .i64 0) H fun v15 H =>
   W.cond v15 H
   (fun H => Q (.tuple #[(.bool false), (.int .i64 0)]) H)
   (fun H => W.bin .add i_10 (.int .i64 1) H fun v16 H =>
    I1 (v16, ()) H))
  (fun H => W.loop (S := St [11]) (fun I2 s H => f18.l2 Q v1 v7 v8 I2 s.1 H) ((.int .i64 0), ()) H)
def f18.w (Q : Post) (p_0 : Value) (x_1 : Value) (H : Heap) : Prop :=
  W.box p_0 39 H fun v1 H =>
  W.getN 4 v1 H fun v2 H =>
  W.lit 0 [(.int .i64 0), (.int .i64 0)] 47 [] H fun v3 H =>
  W.call Try.prog (.func (.func 54) #[] #[]) #[v2, x_1, v3, (.int .i64 0)] H fun v4 H =>
  W.bin .neq v4 (.int .i64 0) H fun v5 H =>
  W.cond v5 H
  (fun H => Q (.tuple #[(.bool false), v4]) H)
  (fun H => W.call Try.prog (.func (.func 55) #[] #[]) #[x_1] H fun v6 H =>
   W.extract 0 v6 H fun v7 H =>
   W.extract 1 v6 H fun v8 H =>
   W.extract 2 v6 H fun v9 H =>
   W.un .not v9 H fun v10 H =>
   W.cond v10 H
   (fun H => Q (.tuple #[(.bool false), (.int .i64 3)]) H)
   (fun H => W.loop (S := St [10]) (fun I1 s H => f18.l1 Q v7 v1 v8 I1 s.1 H) ((.int .i64 0), ()) H))
theorem f18.enter {Q : Post} {p_0 : Value} {x_1 : Value} {H : Heap} (h : f18.w Q p_0 x_1 H) : Runs Try.prog 18 #[p_0, x_1] H Q :=
  fn_enter (ann := [(8, [10]), (13, [11]), (17, [12, 13])]) (by kernel_rfl) Try.func18 rfl (by kernel_rfl) h (by kernel_rfl)


theorem fn54 {H0 : Heap} {Q : Post} {cs : List Value} {vx vy : Value} {p : Prg} {xs : List Frac} (hr : Has RPrg H0 cs p) (hx : Has RFS H0 [vx] xs) (hy : Has RFS H0 [vy] []) (hw : wPrg p ≤ 1048576)
    (e1 : ¬ (IsPrg p ∧ Frs xs) → ∀ H', H0.Le H' → Q (.int .i64 1) H') (e2 : IsPrg p → Frs xs → xs.length ≠ p.2.1.length → ∀ H', H0.Le H' → Q (.int .i64 2) H')
    (e3 : IsPrg p → Frs xs → xs.length = p.2.1.length → ∀ H', H0.Le H' → Q (.int .i64 0) H') : Runs Try.prog 54 #[.agg cs.toArray, vx, vy, .int .i64 0] H0 Q := by
  obtain ⟨u1, u2, u3, u4, rfl, r1, r2, r3, r4⟩ := hasPrg hr
  have hs := hx.small
  refine f54.enter ?_
  unfold f54.w
  have h := ((((Loc.start H0).lent hx).lent hy).lent r2).lent hr
  refine Wl.box h fun H b h => Wl.getA h rfl (Wi.call (fn84 (h.rd (cs := [u1, u2, u3, u4])) hw fun H t l ht => ?_))
  have h := h.to l
  cases t with
  | false =>
    simp only [gw]
    exact e1 (fun g => Bool.noConfusion (ht.2 g.1)) _ h.le
  | true =>
  have hp := ht.1 rfl
  simp only [gw]
  refine W.all_rule xs.length (fun i => isFr 1000000000 (xs.getD i (0, 0))) (fun i H1 J hi _ l hJ => ?_) fun H1 J hall l => ?_
  · have h := h.to l
    refine Wl.lenH (hx.le h.le) (Wi.lssC (fun _ => Wi.tru ?_) fun h => by omega)
    refine Wl.atFrH (hx.le h.le) hi fun _ _ => Wi.call (fn95 fun H3 l3 => Wi.not ?_)
    cases hf : isFr 1000000000 xs[i] with
    | false => exact Wi.tru (e1 (fun g => by rw [g.2 _ (List.getElem_mem hi)] at hf; cases hf) _ (h.le.trans l3))
    | true => exact Wi.fls (Wi.add (by unfold I64; omega) (hJ (by rw [fr_at hi]; exact hf) H3 l3))
  have h := h.to l
  have hf : Frs xs := fun a ha => by
    obtain ⟨i, hi, rfl⟩ := List.mem_iff_getElem.1 ha
    have := hall i hi
    rw [fr_at hi] at this
    exact this
  refine Wl.lenH (hx.le h.le) (Wi.lssC (fun h => by omega) fun _ => Wi.fls ?_)
  refine W.all_rule 0 (fun _ => true) (fun i H1 J hi _ l hJ => by omega) fun H1 J _ l => ?_
  have h := h.to l
  refine Wl.lenH (hy.le h.le) (Wi.lssC (fun h => by simp at h) fun _ => Wi.fls ?_)
  refine Wl.lenH (hx.le h.le) (Wi.fieldAddr0 (Wl.get h rfl (Wl.len h (Wi.neqC (fun hne => ?_) fun he => ?_))))
  · simp only [gw]
    exact e2 hp hf (fun g => hne (by rw [g])) _ h.le
  · simp only [gw]
    refine Wl.lenH (hy.le h.le) (Wi.neqC (fun hne => absurd rfl hne) fun _ => ?_)
    simp only [gw]
    exact e3 hp hf (by omega) _ h.le

theorem fn18 {H0 : Heap} {Q : Post} {cs : List Value} {vx : Value} {p : Prg} {xs : List Frac} (hr : Has RPrg H0 cs p) (hx : Has RFS H0 [vx] xs) (hw : wPrg p ≤ 1048576) (hl : xs.length ≤ 1048576)
    (hQ : ∀ H', H0.Le H' → Q (.tuple #[.bool (plRes p xs).1, .int .i64 (plRes p xs).2]) H') : Runs Try.prog 18 #[.agg cs.toArray, vx] H0 Q := by
  obtain ⟨u1, u2, u3, u4, rfl, r1, r2, r3, r4⟩ := hasPrg hr
  refine f18.enter ?_
  unfold f18.w
  have hz : ∀ H t c, H0.Le H → plRes p xs = (t, c) → Q (.tuple #[.bool t, .int .i64 c]) H := fun H t c l e => by
    have := hQ H l
    rw [e] at this
    exact this
  have h := ((((Loc.start H0).lent hx).lent r4).lent r3).lent hr
  refine Wl.box h fun H b h => Wl.getA h rfl (Wl.lit0 RFrac rfl h fun H y h => Wi.call (fn54 (h.rd (cs := [u1, u2, u3, u4])) (h.rd (cs := [vx])) (h.rd (cs := [y])) hw (fun g H l => ?_) (fun hp hf g H l => ?_) fun hp hf he H l => ?_))
  · have h := h.to l
    exact Wi.neqC (fun _ => Wi.tru (hz _ _ _ h.le (by simp only [plRes, if_neg g]))) fun e => absurd e (by decide)
  · have h := h.to l
    exact Wi.neqC (fun _ => Wi.tru (hz _ _ _ h.le (by simp only [plRes, if_pos (And.intro hp hf), if_neg g]))) fun e => absurd e (by decide)
  have h := h.to l
  refine Wi.neqC (fun e => absurd rfl e) fun _ => Wi.fls (Wi.call (fn55 (h.rd (cs := [vx])) hf hl (fun g H l => ?_) fun l d g H u f => ?_))
  · have h := h.to l
    simp only [gw]
    exact hz _ _ _ h.le (by simp only [plRes, if_pos (And.intro hp hf), if_pos he, g])
  have h := h.add f.fresh
  have hres : ∀ t : Bool, (t = true ↔ plOK p l d) → plRes p xs = (t, 0) := fun t ht => by
    simp only [plRes, if_pos (And.intro hp hf), if_pos he, g]
    congr 1
    rw [Bool.eq_iff_iff, ht]
    simp
  obtain ⟨f1, f2, f3, f4⟩ := tog_facts hf (by omega) g
  have fa := abs12 (k := 1000000000000) f4 rfl
  have n1 := hp.n1; have nm := hp.nm; have dl := hp.dl; have al := hp.al
  simp only [gw]
  refine W.all_rule l.length (fun i => decide (0 ≤ l.getD i 0)) (fun i H1 J hi _ l1 hJ => ?_) fun H1 J hall l1 => ?_
  · have h := h.to l1
    refine Wl.len h (Wi.lssC (fun _ => Wi.tru ?_) fun h => by omega)
    refine Wl.atInt h hi fun _ => Wi.lssC (fun hlt => Wi.tru ?_) fun hge => Wi.fls (Wi.add (by unfold I64; omega) (hJ (by rw [getD_at hi]; exact decide_eq_true (by omega)) _ (.refl _)))
    refine hz _ _ _ h.le (hres false ⟨fun e => Bool.noConfusion e, fun g => ?_⟩)
    have := g.2 _ (List.getElem_mem hi)
    omega
  have h := h.to l1
  have hpos : ∀ a ∈ l, 0 ≤ a := fun a ha => by
    obtain ⟨i, hi, rfl⟩ := List.mem_iff_getElem.1 ha
    have := hall i hi
    rw [getD_at hi] at this
    exact of_decide_eq_true this
  refine Wl.len h (Wi.lssC (fun h => by omega) fun _ => Wi.fls ?_)
  refine W.all_rule p.2.2.2.length (fun j => decide (p.2.2.2.getD j 0 * d ≤ dot (p.2.2.1.getD j []) l)) (fun j H2 J2 hjb _ l2 hJ2 => ?_) fun H2 J2 hall2 l2 => ?_
  · have h := h.to l2
    have hj : j < p.2.2.1.length := by omega
    have ha := hp.a _ (List.getElem_mem hj)
    have hal := ha.1
    refine Wi.fieldAddr0 (Wl.get h rfl (Wl.len h (Wi.lssC (fun _ => Wi.tru ?_) fun h => by omega)))
    have hrl : p.2.2.1[j].length = l.length := by omega
    have hb := hp.b _ (List.getElem_mem hjb)
    have haa : ∀ e ∈ p.2.2.1[j], e.natAbs ≤ 20 := fun e he => by have := ha.2 e he; omega
    have hP : ∀ k, (dotF p.2.2.1[j] l k).natAbs ≤ 20 * 1000000000000 := fun k => mul_abs (getD_abs haa k) (getD_abs fa k)
    have hbd : (p.2.2.2[j] * d).natAbs ≤ 100 * 1000000000 := mul_abs (by omega) (by omega)
    refine W.for_rule l.length (fun k s H' => H' = H2 ∧ s = (.int .i64 (sumTo (dotF p.2.2.1[j] l) k), .int .i64 (k : Nat), ())) ⟨rfl, rfl⟩ ?_
    rintro k s H3 J3 hk ⟨rfl, rfl⟩ hJ3
    refine Wl.len h (Wi.lssC (fun hlt => Wi.tru ?_) fun hge => Wi.fls ?_)
    · have hkl : k < l.length := by omega
      have hka : k < p.2.2.1[j].length := by omega
      have h1 := hP k
      have h2 : (sumTo (dotF p.2.2.1[j] l) (k + 1)).natAbs ≤ (k + 1) * (20 * 1000000000000) := sumTo_abs fun i _ => hP i
      have h2' := mul5 (n := k + 1) (N := 20 * 1000000000000) (by omega)
      have e : dotF p.2.2.1[j] l k = p.2.2.1[j][k] * l[k] := by simp only [dotF]; rw [getD_at hka, getD_at hkl]
      have h3 := abs_i64 h2 (by omega)
      have h4 := abs_i64 h1 (by omega)
      simp only [sumTo] at h3
      rw [e] at h3 h4
      refine Wi.fieldAddr0 (Wl.get h rfl (Wl.at1 rfl h hj fun w hw => Wl.atIntH hw hka fun _ => Wl.atInt h hkl fun _ => Wi.mul h4 (Wi.add h3 (Wi.add (by unfold I64; omega) (hJ3 _ _ hkl ⟨rfl, ?_⟩)))))
      simp only [sumTo]
      rw [e]
      rfl
    · have : k = l.length := by omega
      subst this
      have ed : sumTo (dotF p.2.2.1[j] l) l.length = dot p.2.2.1[j] l := by unfold dot; rw [hrl]
      rw [ed]
      refine Wi.fieldAddr0 (Wl.get h rfl (Wl.atInt h hjb fun _ => Wi.mul (by unfold I64; omega) (Wi.lssC (fun hlt => Wi.tru ?_) fun hge => Wi.fls (Wi.add (by unfold I64; omega) (hJ2 ?_ _ (.refl _))))))
      · refine hz _ _ _ h.le (hres false ⟨fun e => Bool.noConfusion e, fun g => ?_⟩)
        have := g.1 j hj
        rw [getD_at hjb, getD_row hj] at this
        omega
      · rw [getD_at hjb, getD_row hj]
        exact decide_eq_true (by omega)
  · have h := h.to l2
    refine Wi.fieldAddr0 (Wl.get h rfl (Wl.len h (Wi.lssC (fun h => by omega) fun _ => Wi.fls ?_)))
    exact hz _ _ _ h.le (hres true ⟨fun _ => ⟨fun j hj => of_decide_eq_true (hall2 j (by omega)), hpos⟩, fun _ => rfl⟩)

end Go.Proofs.Ytdbdmlfnggbdiaa
