/- The contract of the reference's IsStationary. No condition. -/
import Derived.Test.YtdbdmlfnggbdiaaY0
import Derived.Test.YtdbdmlfnggbdiaaN5
import Derived.Test.YtdbdmlfnggbdiaaQ1
import Derived.Test.YtdbdmlfnggbdiaaQ3
import Derived.Test.YtdbdmlfnggbdiaaV2
namespace Go.Proofs.Ytdbdmlfnggbdiaa
open Go.Ab

/- loop.example/g01343/spec.l01Remainder -/
def f101.l2 (Q : Post) (list_1 : Value) (v1 : Value) (i_8 : Value) (out_7 : Value) (I1 : St [7, 8] → Heap → Prop) (I2 : St [9, 10] → Heap → Prop) (sum_9 : Value) (k_10 : Value) (H : Heap) : Prop :=
  W.len list_1 H fun v12 H =>
  W.bin .lss k_10 v12 H fun v13 H =>
  W.cond v13 H
  (fun H => W.fieldAddr 0 v1 H fun v14 H =>
   W.get v14 H fun v15 H =>
   W.indexAddr 1 v15 i_8 H fun v16 H =>
   W.get v16 H fun v17 H =>
   W.indexAddr 1 v17 k_10 H fun v18 H =>
   W.get v18 H fun v19 H =>
   W.indexAddr 1 list_1 k_10 H fun v20 H =>
   W.get v20 H fun v21 H =>
   W.bin .mul v19 v21 H fun v22 H =>
   W.bin .add sum_9 v22 H fun v23 H =>
   W.bin .add k_10 (.int .i64 1) H fun v24 H =>
   I2 (v23, v24, ()) H)
  (fun H => W.lit 1 [(.int .i64 0)] 2 [(0, 1, sum_9)] H fun v25 H =>
   W.append 1 2 out_7 v25 H fun v26 H =>
   W.bin .add i_8 (.int .i64 1) H fun v27 H =>
   I1 (v26, v27, ()) H)
def f101.l1 (Q : Post) (v1 : Value) (den_2 : Value) (list_1 : Value) (I1 : St [7, 8] → Heap → Prop) (out_7 : Value) (i_8 : Value) (H : Heap) : Prop :=
  W.fieldAddr 1 v1 H fun v3 H =>
  W.get v3 H fun v4 H =>
  W.len v4 H fun v5 H =>
  W.bin .lss i_8 v5 H fun v6 H =>
  W.cond v6 H
  (fun H => W.fieldAddr 1 v1 H fun v7 H =>
   W.get v7 H fun v8 H =>
   W.indexAddr 1 v8 i_8 H fun v9 H =>
   W.get v9 H fun v10 H =>
   W.bin .mul v10 den_2 H fun v11 H =>
   W.loop (S := St [9, 10]) (fun I2 s H => f101.l2 Q list_1 v1 i_8 out_7 I1 I2 s.1 s.2.1 H) (v11, (.int .i64 0), ()) H)
  (fun H => Q out_7 H)
def f101.w (Q : Post) (p_0 : Value) (list_1 : Value) (den_2 : Value) (H : Heap) : Prop :=
  W.box p_0 29 H fun v1 H =>
  W.lit 0 [(.int .i64 0)] 2 [] H fun v2 H =>
  W.loop (S := St [7, 8]) (fun I1 s H => f101.l1 Q v1 den_2 list_1 I1 s.1 s.2.1 H) (v2, (.int .i64 0), ()) H
theorem f101.enter {Q : Post} {p_0 : Value} {list_1 : Value} {den_2 : Value} {H : Heap} (h : f101.w Q p_0 list_1 den_2 H) : Runs Try.prog 101 #[p_0, list_1, den_2] H Q :=
  fn_enter (ann := [(3, [7, 8]), (7, [9, 10])]) (by kernel_rfl) Try.func101 rfl (by kernel_rfl) h (by kernel_rfl)

/- loop.example/g01343/spec.l01Solves -/
def f63.l1 (Q : Post) (v3 : Value) (list_1 : Value) (I1 : St [8] → Heap → Prop) (i_8 : Value) (H : Heap) : Prop :=
  W.len v3 H fun v4 H =>
  W.bin .lss i_8 v4 H fun v5 H =>
  W.cond v5 H
  (fun H => W.indexAddr 1 v3 i_8 H fun v6 H =>
   W.get v6 H fun v7 H =>
   W.bin .lss v7 (.int .i64 0) H fun v8 H =>
   W.guarded v8 false (fun H k => k list_1 H) H fun v9 H =>
   W.guarded v8 false (fun H k => k i_8 H) H fun v10 H =>
   W.guarded v8 false (fun H k => W.indexAddr 1 v9 v10 H k) H fun v11 H =>
   W.guarded v8 false (fun H k => W.get v11 H k) H fun v12 H =>
   W.guarded v8 false (fun H k => W.bin .lss v12 (.int .i64 0) H k) H fun v13 H =>
   W.pick v8 (.bool true) v13 H fun v14 H =>
   W.guarded v14 false (fun H k => k v3 H) H fun v15 H =>
   W.guarded v14 false (fun H k => k i_8 H) H fun v16 H =>
   W.guarded v14 false (fun H k => W.indexAddr 1 v15 v16 H k) H fun v17 H =>
   W.guarded v14 false (fun H k => W.get v17 H k) H fun v18 H =>
   W.guarded v14 false (fun H k => W.bin .neq v18 (.int .i64 0) H k) H fun v19 H =>
   W.guarded v14 false (fun H k => k v19 H) H fun v20 H =>
   W.guarded v20 true (fun H k => k list_1 H) H fun v21 H =>
   W.guarded v20 true (fun H k => k i_8 H) H fun v22 H =>
   W.guarded v20 true (fun H k => W.indexAddr 1 v21 v22 H k) H fun v23 H =>
   W.guarded v20 true (fun H k => W.get v23 H k) H fun v24 H =>
   W.guarded v20 true (fun H k => W.bin .neq v24 (.int .i64 0) H k) H fun v25 H =>
   W.guarded v14 false (fun H k => W.pick v20 v25 (.bool false) H k) H fun v26 H =>
   W.pick v14 (.bool true) v26 H fun v27 H =>
   W.cond v27 H
   (fun H => Q (.bool false) H)
   (fun H => W.bin .add i_8 (.int .i64 1) H fun v28 H =>
    I1 (v28, ()) H))
  (fun H => Q (.bool true) H)
def f63.w (Q : Post) (p_0 : Value) (list_1 : Value) (den_2 : Value) (H : Heap) : Prop :=
  W.box p_0 29 H fun v1 H =>
  W.getN 2 v1 H fun v2 H =>
  W.call Try.prog (.func (.func 101) #[] #[]) #[v2, list_1, den_2] H fun v3 H =>
  W.loop (S := St [8]) (fun I1 s H => f63.l1 Q v3 list_1 I1 s.1 H) ((.int .i64 0), ()) H
theorem f63.enter {Q : Post} {p_0 : Value} {list_1 : Value} {den_2 : Value} {H : Heap} (h : f63.w Q p_0 list_1 den_2 H) : Runs Try.prog 63 #[p_0, list_1, den_2] H Q :=
  fn_enter (ann := [(3, [8])]) (by kernel_rfl) Try.func63 rfl (by kernel_rfl) h (by kernel_rfl)

/- loop.example/g01343/spec.IsStationary -/
def f27.w (Q : Post) (p_0 : Value) (x_1 : Value) (y_2 : Value) (H : Heap) : Prop :=
  W.box p_0 39 H fun v1 H =>
  W.getN 4 v1 H fun v2 H =>
  W.fieldAddr 3 v1 H fun v3 H =>
  W.get v3 H fun v4 H =>
  W.len v4 H fun v5 H =>
  W.call Try.prog (.func (.func 54) #[] #[]) #[v2, x_1, y_2, v5] H fun v6 H =>
  W.bin .neq v6 (.int .i64 0) H fun v7 H =>
  W.cond v7 H
  (fun H => Q (.tuple #[(.bool false), v6]) H)
  (fun H => W.lit 0 [(.int .i64 0), (.int .i64 0)] 47 [] H fun v8 H =>
   W.append 2 47 v8 x_1 H fun v9 H =>
   W.append 2 47 v9 y_2 H fun v10 H =>
   W.call Try.prog (.func (.func 55) #[] #[]) #[v10] H fun v11 H =>
   W.extract 0 v11 H fun v12 H =>
   W.extract 1 v11 H fun v13 H =>
   W.extract 2 v11 H fun v14 H =>
   W.un .not v14 H fun v15 H =>
   W.cond v15 H
   (fun H => Q (.tuple #[(.bool false), (.int .i64 3)]) H)
   (fun H => W.getN 4 v1 H fun v16 H =>
    W.call Try.prog (.func (.func 64) #[] #[]) #[v16] H fun v17 H =>
    W.call Try.prog (.func (.func 63) #[] #[]) #[v17, v12, v13] H fun v18 H =>
    Q (.tuple #[v18, (.int .i64 0)]) H))
theorem f27.enter {Q : Post} {p_0 : Value} {x_1 : Value} {y_2 : Value} {H : Heap} (h : f27.w Q p_0 x_1 y_2 H) : Runs Try.prog 27 #[p_0, x_1, y_2] H Q :=
  fn_enter (ann := []) (by kernel_rfl) Try.func27 rfl (by kernel_rfl) h (by kernel_rfl)


theorem fnM54 {H0 : Heap} {Q : Post} {cs : List Value} {vx vy : Value} {p : Prg} {xs ys : List Frac} {m : Nat} (hr : Has RPrg H0 cs p) (hx : Has RFS H0 [vx] xs) (hy : Has RFS H0 [vy] ys) (hw : wPrg p ≤ 1048576)
    (e1 : ¬ (IsPrg p ∧ Frs xs ∧ Frs ys) → ∀ H', H0.Le H' → Q (.int .i64 1) H') (e2 : IsPrg p ∧ Frs xs ∧ Frs ys → ¬ (xs.length = p.2.1.length ∧ ys.length = m) → ∀ H', H0.Le H' → Q (.int .i64 2) H')
    (e3 : IsPrg p ∧ Frs xs ∧ Frs ys → xs.length = p.2.1.length → ys.length = m → ∀ H', H0.Le H' → Q (.int .i64 0) H') : Runs Try.prog 54 #[.agg cs.toArray, vx, vy, .int .i64 (m : Nat)] H0 Q := by
  obtain ⟨u1, u2, u3, u4, rfl, r1, r2, r3, r4⟩ := hasPrg hr
  have hs := hx.small
  have hs2 := hy.small
  have hs3 := r2.small
  refine f54.enter ?_
  unfold f54.w
  have h := ((((Loc.start H0).lent hx).lent hy).lent r2).lent hr
  refine Wl.box h fun H b h => Wl.getA h rfl (Wi.call (fn84 (h.rd (cs := [u1, u2, u3, u4])) hw fun H t l ht => ?_))
  have h := h.to l
  cases t with
  | false =>
    simp only [gw]
    exact e1 (fun g => Bool.noConfusion (ht.2 g.1)) _ h.le
  | true =>
  have hp := ht.1 rfl
  simp only [gw]
  refine W.all_rule xs.length (fun i => isFr 1000000000 (xs.getD i (0, 0))) (fun i H1 J hi _ l hJ => ?_) fun H1 J hall l => ?_
  · have h := h.to l
    refine Wl.lenH (hx.le h.le) (Wi.lssC (fun _ => Wi.tru ?_) fun h => by omega)
    refine Wl.atFrH (hx.le h.le) hi fun _ _ => Wi.call (fn95 fun H3 l3 => Wi.not ?_)
    cases hf : isFr 1000000000 xs[i] with
    | false => exact Wi.tru (e1 (fun g => by rw [g.2.1 _ (List.getElem_mem hi)] at hf; cases hf) _ (h.le.trans l3))
    | true => exact Wi.fls (Wi.add (by unfold I64; omega) (hJ (by rw [fr_at hi]; exact hf) H3 l3))
  have h := h.to l
  have hf : Frs xs := fun a ha => by
    obtain ⟨i, hi, rfl⟩ := List.mem_iff_getElem.1 ha
    have := hall i hi
    rw [fr_at hi] at this
    exact this
  refine Wl.lenH (hx.le h.le) (Wi.lssC (fun h => by omega) fun _ => Wi.fls ?_)
  refine W.all_rule ys.length (fun i => isFr 1000000000 (ys.getD i (0, 0))) (fun i H1 J hi _ l hJ => ?_) fun H1 J hall l => ?_
  · have h := h.to l
    refine Wl.lenH (hy.le h.le) (Wi.lssC (fun _ => Wi.tru ?_) fun h => by omega)
    refine Wl.atFrH (hy.le h.le) hi fun _ _ => Wi.call (fn95 fun H3 l3 => Wi.not ?_)
    cases hf : isFr 1000000000 ys[i] with
    | false => exact Wi.tru (e1 (fun g => by rw [g.2.2 _ (List.getElem_mem hi)] at hf; cases hf) _ (h.le.trans l3))
    | true => exact Wi.fls (Wi.add (by unfold I64; omega) (hJ (by rw [fr_at hi]; exact hf) H3 l3))
  have h := h.to l
  have hf2 : Frs ys := fun a ha => by
    obtain ⟨i, hi, rfl⟩ := List.mem_iff_getElem.1 ha
    have := hall i hi
    rw [fr_at hi] at this
    exact this
  have hall3 : IsPrg p ∧ Frs xs ∧ Frs ys := ⟨hp, hf, hf2⟩
  refine Wl.lenH (hy.le h.le) (Wi.lssC (fun h => by omega) fun _ => Wi.fls ?_)
  refine Wl.lenH (hx.le h.le) (Wi.fieldAddr0 (Wl.get h rfl (Wl.len h (Wi.neqC (fun hne => ?_) fun he => ?_))))
  · simp only [gw]
    exact e2 hall3 (fun g => hne (by rw [g.1])) _ h.le
  · simp only [gw]
    refine Wl.lenH (hy.le h.le) (Wi.neqC (fun hne => ?_) fun he2 => ?_)
    · simp only [gw]
      exact e2 hall3 (fun g => hne (by rw [g.2])) _ h.le
    · simp only [gw]
      exact e3 hall3 (by omega) (by omega) _ h.le

theorem fn101 {H0 : Heap} {Q : Post} {cs : List Value} {vl : Value} {P : Prob} {l : List Int} {d : Int} {n : Nat} (hr : Has RProblem H0 cs P) (hl : Has RS H0 [vl] l) (hp : PB n P) (hln : l.length = n) (hd : d.natAbs ≤ 1000000000) (hlb : ∀ e ∈ l, e.natAbs ≤ 1000000000000)
    (hQ : ∀ H' u, Fresh RS H0 [u] (restL n P d l) H' → Q u H') : Runs Try.prog 101 #[.agg cs.toArray, vl, .int .i64 d] H0 Q := by
  obtain ⟨u1, u2, rfl, r1, r2⟩ := hasProb hr
  have hn := hp.n5; have hql := hp.ql; have hsq := hp.sq; have hl1 := hsq.1
  have h := (((Loc.start H0).lent r2).lent r1).lent hl
  refine f101.enter ?_
  unfold f101.w
  refine Wl.box h fun H b h => Wl.lit0 (ty := 2) Rd.int rfl h fun H u h => ?_
  refine W.for_rule n (fun x st H => ∃ u, st = (u, .int .i64 (x : Nat), ()) ∧ Ab.Loc H0 [.grow Rd.int 2 u ((List.range x).map (restN P d l)), .box b [u1, u2], .lent RS [vl] l, .lent RSS [u1] P.1, .lent RS [u2] P.2] H) ⟨_, rfl, h⟩ ?_
  rintro x st H J hx ⟨u, rfl, h⟩ hJ
  refine Wi.fieldAddr (Wl.get h rfl (Wl.len h (Wi.lssC (fun hlt => Wi.tru ?_) fun hge => Wi.fls ?_)))
  · have hxn : x < n := by omega
    have hxm : x < P.1.length := by omega
    have hxq : x < P.2.length := by omega
    have hrow := hp.row _ (List.getElem_mem hxm)
    have hrl := hsq.2 _ (List.getElem_mem hxm)
    obtain ⟨b1, b2, b3⟩ := rest_bound hp hd hlb x
    have b1' := b1
    rw [getD_at hxq] at b1
    have ed : ∀ k, (dotF (P.1.getD x []) l k).natAbs ≤ 20 * 1000000000000 := fun k => mul_abs (by rw [getD_row hxm]; exact getD_abs hrow.2 k) (getD_abs hlb k)
    refine Wi.fieldAddr (Wl.get h rfl (Wl.atInt h hxq fun _ => Wi.mul (i64A b1 (by decide)) ?_))
    refine W.for_rule n (fun k st H' => H' = H ∧ st = (.int .i64 (P.2.getD x 0 * d + sumTo (dotF (P.1.getD x []) l) k), .int .i64 (k : Nat), ())) ⟨rfl, by simp only [sumTo, Int.add_zero]; rw [getD_at hxq]; rfl⟩ ?_
    rintro k st H2 J2 hk ⟨rfl, rfl⟩ hJ2
    refine Wl.len h (Wi.lssC (fun hlt2 => Wi.tru ?_) fun hge2 => Wi.fls ?_)
    · have hkn : k < n := by omega
      have hkl : k < l.length := by omega
      have hkm : k < P.1[x].length := by omega
      have e1 : dotF (P.1.getD x []) l k = P.1[x][k] * l[k] := by simp only [dotF]; rw [getD_row hxm, getD_at hkm, getD_at hkl]
      have s1 : (sumTo (dotF (P.1.getD x []) l) k).natAbs ≤ 5 * (20 * 1000000000000) := Nat.le_trans (sumTo_abs fun j _ => ed j) (Nat.mul_le_mul_right _ (by omega))
      have t1 := ed k
      have o2 := addA (addA b1' s1) t1
      rw [e1] at t1 o2
      refine Wi.fieldAddr0 (Wl.get h rfl (Wl.at1 rfl h hxm fun w hw => Wl.atIntH hw hkm fun _ => Wl.atInt h hkl fun _ => Wi.mul (i64A t1 (by decide)) (Wi.add (i64A o2 (by decide)) (Wi.add (by unfold I64; omega) (hJ2 _ _ hkn ⟨rfl, ?_⟩)))))
      simp only [sumTo]
      rw [e1, ← Int.add_assoc]
      rfl
    · have : k = n := by omega
      subst this
      have er : P.2.getD x 0 * d + sumTo (dotF (P.1.getD x []) l) k = restN P d l x := by
        unfold restN dot
        rw [getD_row hxm, hrl]
      rw [er]
      refine Wl.pushP (r := Rd.int) (x := restN P d l x) rfl rfl rfl (fun _ => ⟨rfl, rfl, i64A b3 (by decide)⟩) h (by simp; omega) fun H u' h => Wi.add (by unfold I64; omega) (hJ _ _ hxn ⟨u', rfl, ?_⟩)
      have h2 : Ab.Loc H0 [.grow Rd.int 2 u' ((List.range x).map (restN P d l) ++ [restN P d l x]), .box b [u1, u2], .lent RS [vl] l, .lent RSS [u1] P.1, .lent RS [u2] P.2] H := h
      rw [range_push (f := restN P d l) rfl] at h2
      exact h2
  · have : x = n := by omega
    subst this
    exact hQ _ _ ((h.asData (i := 0) rfl).ret (i := 0) rfl)

theorem fn63 {H0 : Heap} {Q : Post} {cs : List Value} {vl : Value} {P : Prob} {l : List Int} {d : Int} {n : Nat} (hr : Has RProblem H0 cs P) (hl : Has RS H0 [vl] l) (hp : PB n P) (hln : l.length = n) (hd : d.natAbs ≤ 1000000000) (hlb : ∀ e ∈ l, e.natAbs ≤ 1000000000000)
    (hQ : ∀ H', H0.Le H' → Q (.bool (solV n P l d)) H') : Runs Try.prog 63 #[.agg cs.toArray, vl, .int .i64 d] H0 Q := by
  have hcl := hr.len
  have hn := hp.n5
  have h := ((Loc.start H0).lent hl).lent hr
  refine f63.enter (Wl.box h fun H b h => Wl.getA h hcl (Wi.call (fn101 (h.rd (cs := cs)) (h.rd (cs := [vl])) hp hln hd hlb fun H w f => ?_)))
  have h := h.add f
  have hwl := restL_len n P d l
  refine W.all_rule n (fun i => okI (restN P d l i) (l.getD i 0)) (fun i H1 J hi _ l1 hJ => ?_) fun H1 J hall l1 => ?_
  · have h := h.to l1
    have hiw : i < (restL n P d l).length := by omega
    have hil : i < l.length := by omega
    have ew := restL_at P d l hiw
    have el : l.getD i 0 = l[i] := getD_at hil
    have bad : okI (restN P d l i) (l.getD i 0) = false → Q (.bool false) H1 := fun hb => by
      have := hQ _ h.le
      rw [show solV n P l d = false from allN_false hi hb] at this
      exact this
    have good : okI (restN P d l i) (l.getD i 0) = true → W.bin .add (.int .i64 (i : Nat)) (.int .i64 1) H1 fun v33 H => J (v33, ()) H := fun hb => Wi.add (by unfold I64; omega) (hJ hb _ (.refl _))
    rw [el] at bad good
    refine Wl.len h (Wi.lssC (fun _ => Wi.tru ?_) fun h => by omega)
    refine Wl.atInt h hiw fun _ => ?_
    rw [ew]
    refine Wi.lssC (fun h1 => ?_) fun h1 => ?_
    · simp only [gw]
      exact bad (by simp [okI]; omega)
    simp only [gw]
    refine Wl.atInt h hil fun _ => Wi.lssC (fun h2 => ?_) fun h2 => ?_
    · simp only [gw]
      exact bad (by simp [okI]; omega)
    simp only [gw]
    refine Wl.atInt h hiw fun _ => ?_
    rw [ew]
    refine Wi.neqC (fun h3 => ?_) fun h3 => ?_
    · simp only [gw]
      refine Wl.atInt h hil fun _ => Wi.neqC (fun h4 => ?_) fun h4 => ?_
      · simp only [gw]
        exact bad (by simp [okI]; omega)
      · simp only [gw]
        exact good (okI_iff.2 ⟨by omega, by omega, by omega⟩)
    · simp only [gw]
      exact good (okI_iff.2 ⟨by omega, by omega, by omega⟩)
  · have h := h.to l1
    refine Wl.len h (Wi.lssC (fun h => by omega) fun _ => Wi.fls ?_)
    have := hQ _ h.le
    rw [show solV n P l d = true from allN_true hall] at this
    exact this

theorem fn27 {H0 : Heap} {Q : Post} {cs : List Value} {vx vy : Value} {p : Prg} {xs ys : List Frac} (hr : Has RPrg H0 cs p) (hx : Has RFS H0 [vx] xs) (hy : Has RFS H0 [vy] ys) (hw : wPrg p ≤ 1048576) (hl : xs.length ≤ 1048576) (hl2 : ys.length ≤ 1048576)
    (hQ : ∀ H', H0.Le H' → Q (.tuple #[.bool (stRes p xs ys).1, .int .i64 (stRes p xs ys).2]) H') : Runs Try.prog 27 #[.agg cs.toArray, vx, vy] H0 Q := by
  obtain ⟨u1, u2, u3, u4, rfl, r1, r2, r3, r4⟩ := hasPrg hr
  have hz : ∀ H b c, H0.Le H → stRes p xs ys = (b, c) → Q (.tuple #[.bool b, .int .i64 c]) H := fun H b c l e => by
    have := hQ H l
    rw [e] at this
    exact this
  have h := ((((Loc.start H0).lent r4).lent hx).lent hy).lent hr
  refine f27.enter (Wl.box h fun H b h => Wl.getA h rfl (Wi.fieldAddr (Wl.get h rfl (Wl.len h (Wi.call (fnM54 (h.rd (cs := [u1, u2, u3, u4])) (h.rd (cs := [vx])) (h.rd (cs := [vy])) hw (fun g H l => ?_) (fun g1 g2 H l => ?_) fun hf g1 g2 H l => ?_))))))
  · exact Wi.neqC (fun _ => Wi.tru (hz _ _ _ (h.to l).le (by simp only [stRes, if_neg g]))) fun e => absurd e (by decide)
  · exact Wi.neqC (fun _ => Wi.tru (hz _ _ _ (h.to l).le (by simp only [stRes, if_pos g1, if_neg g2]))) fun e => absurd e (by decide)
  have h := h.to l
  have hp := hf.1
  have nm := hp.nm
  have hst : stRes p xs ys = stOf (p.2.1.length + p.2.2.2.length) (prgProblem p) (tog 1000000000 1000000000000 (xs ++ ys)) := by simp only [stRes, if_pos hf, if_pos (And.intro g1 g2)]
  refine Wi.neqC (fun e => absurd rfl e) fun _ => Wi.fls (Wl.lit0 RFrac (ty := 47) rfl h fun H z h => ?_)
  refine Wl.appendH (i := 0) rfl h rfl (h.rd (cs := [vx])) (by simp; omega) fun H z2 h => ?_
  have h2 : Ab.Loc H0 [.grow RFrac 47 z2 xs, .box b [u1, u2, u3, u4], .lent RPrg [u1, u2, u3, u4] p, .lent RFS [vy] ys, .lent RFS [vx] xs, .lent RS [u4] p.2.2.2] H := h
  refine Wl.appendH (i := 0) rfl h2 rfl (h2.rd (cs := [vy])) (by omega) fun H z3 h => ?_
  have h3 : Ab.Loc H0 [.grow RFrac 47 z3 (xs ++ ys), .box b [u1, u2, u3, u4], .lent RPrg [u1, u2, u3, u4] p, .lent RFS [vy] ys, .lent RFS [vx] xs, .lent RS [u4] p.2.2.2] H := h
  have h := h3.asData (i := 0) rfl
  refine Wi.call (fn55 (h.rd (cs := [z3])) (hf.2.1.append hf.2.2) (by simp; omega) (fun g H l => ?_) fun l d g H u f => ?_)
  · simp only [gw]
    exact hz _ _ _ (h.to l).le (by rw [hst, g]; rfl)
  have h := h.add f.fresh
  obtain ⟨f1, f2, f3, f4⟩ := tog_facts (hf.2.1.append hf.2.2) (by omega) g
  have hlb : ∀ e ∈ l, e.natAbs ≤ 1000000000000 := fun e he => by have := f4 e he; omega
  simp only [gw]
  refine Wl.getA h rfl (Wi.call (fn64 (h.rd (cs := [u1, u2, u3, u4])) hp fun H w1 w2 fp => ?_))
  have h := h.add fp
  refine Wi.call (fn63 (h.rd (cs := [w1, w2])) (h.rd (cs := [u])) (prgPB hp) (by simp at f1; omega) (by omega) hlb fun H l2 => ?_)
  exact hz _ _ _ (h.to l2).le (by rw [hst, g]; rfl)

end Go.Proofs.Ytdbdmlfnggbdiaa
