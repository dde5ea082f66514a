/- The contract of the reference's ValueAt. No condition. -/
import Derived.Test.YtdbdmlfnggbdiaaQ3
import Derived.Test.YtdbdmlfnggbdiaaQ5
namespace Go.Proofs.Ytdbdmlfnggbdiaa
open Go.Ab

/- loop.example/g01343/spec.l09Small -/
def f58.l1 (Q : Post) (v7 : Value) (v8 : Value) (I1 : St [11] → Heap → Prop) (i_11 : Value) (H : Heap) : Prop :=
  W.len v7 H fun v14 H =>
  W.bin .lss i_11 v14 H fun v15 H =>
  W.cond v15 H
  (fun H => W.indexAddr 1 v7 i_11 H fun v16 H =>
   W.get v16 H fun v17 H =>
   W.call Try.prog (.func (.func 74) #[] #[]) #[v17, (.int .i64 (-10000000)), (.int .i64 10000000)] H fun v18 H =>
   W.un .not v18 H fun v19 H =>
   W.cond v19 H
   (fun H => Q (.tuple #[(.slice none 0 0), (.int .i64 0), (.int .i64 3)]) H)
   (fun H => W.bin .add i_11 (.int .i64 1) H fun v20 H =>
    I1 (v20, ()) H))
  (fun H => Q (.tuple #[v7, v8, (.int .i64 0)]) H)
def f58.w (Q : Post) (p_0 : Value) (x_1 : Value) (H : Heap) : Prop :=
  W.box p_0 39 H fun v1 H =>
  W.getN 4 v1 H fun v2 H =>
  W.lit 0 [(.int .i64 0), (.int .i64 0)] 47 [] H fun v3 H =>
  W.call Try.prog (.func (.func 54) #[] #[]) #[v2, x_1, v3, (.int .i64 0)] H fun v4 H =>
  W.bin .neq v4 (.int .i64 0) H fun v5 H =>
  W.cond v5 H
  (fun H => Q (.tuple #[(.slice none 0 0), (.int .i64 0), v4]) H)
  (fun H => W.call Try.prog (.func (.func 55) #[] #[]) #[x_1] H fun v6 H =>
   W.extract 0 v6 H fun v7 H =>
   W.extract 1 v6 H fun v8 H =>
   W.extract 2 v6 H fun v9 H =>
   W.un .not v9 H fun v10 H =>
   W.guarded v10 false (fun H k => k v8 H) H fun v11 H =>
   W.guarded v10 false (fun H k => W.bin .gtr v11 (.int .i64 10000) H k) H fun v12 H =>
   W.pick v10 (.bool true) v12 H fun v13 H =>
   W.cond v13 H
   (fun H => Q (.tuple #[(.slice none 0 0), (.int .i64 0), (.int .i64 3)]) H)
   (fun H => W.loop (S := St [11]) (fun I1 s H => f58.l1 Q v7 v8 I1 s.1 H) ((.int .i64 0), ()) H))
theorem f58.enter {Q : Post} {p_0 : Value} {x_1 : Value} {H : Heap} (h : f58.w Q p_0 x_1 H) : Runs Try.prog 58 #[p_0, x_1] H Q :=
  fn_enter (ann := [(8, [11])]) (by kernel_rfl) Try.func58 rfl (by kernel_rfl) h (by kernel_rfl)

/- loop.example/g01343/spec.ValueAt -/
def f24.l2 (Q : Post) (v5 : Value) (i_10 : Value) (v1 : Value) (I1 : St [9, 10] → Heap → Prop) (I2 : St [9, 11] → Heap → Prop) (sum_9' : Value) (k_11 : Value) (H : Heap) : Prop :=
  W.len v5 H fun v23 H =>
  W.bin .lss k_11 v23 H fun v24 H =>
  W.cond v24 H
  (fun H => W.indexAddr 1 v5 i_10 H fun v25 H =>
   W.get v25 H fun v26 H =>
   W.fieldAddr 0 v1 H fun v27 H =>
   W.get v27 H fun v28 H =>
   W.indexAddr 1 v28 i_10 H fun v29 H =>
   W.get v29 H fun v30 H =>
   W.indexAddr 1 v30 k_11 H fun v31 H =>
   W.get v31 H fun v32 H =>
   W.bin .mul v26 v32 H fun v33 H =>
   W.indexAddr 1 v5 k_11 H fun v34 H =>
   W.get v34 H fun v35 H =>
   W.bin .mul v33 v35 H fun v36 H =>
   W.bin .add sum_9' v36 H fun v37 H =>
   W.bin .add k_11 (.int .i64 1) H fun v38 H =>
   I2 (v37, v38, ()) H)
  (fun H => W.bin .add i_10 (.int .i64 1) H fun v39 H =>
   I1 (sum_9', v39, ()) H)
def f24.l1 (Q : Post) (v5 : Value) (v1 : Value) (v6 : Value) (v2 : Value) (I1 : St [9, 10] → Heap → Prop) (sum_9 : Value) (i_10 : Value) (H : Heap) : Prop :=
  W.len v5 H fun v11 H =>
  W.bin .lss i_10 v11 H fun v12 H =>
  W.cond v12 H
  (fun H => W.fieldAddr 1 v1 H fun v13 H =>
   W.get v13 H fun v14 H =>
   W.indexAddr 1 v14 i_10 H fun v15 H =>
   W.get v15 H fun v16 H =>
   W.bin .mul (.int .i64 2) v16 H fun v17 H =>
   W.indexAddr 1 v5 i_10 H fun v18 H =>
   W.get v18 H fun v19 H =>
   W.bin .mul v17 v19 H fun v20 H =>
   W.bin .mul v20 v6 H fun v21 H =>
   W.bin .add sum_9 v21 H fun v22 H =>
   W.loop (S := St [9, 11]) (fun I2 s H => f24.l2 Q v5 i_10 v1 I1 I2 s.1 s.2.1 H) (v22, (.int .i64 0), ()) H)
  (fun H => W.bin .mul (.int .i64 2) v6 H fun v40 H =>
   W.bin .mul v40 v6 H fun v41 H =>
   W.call Try.prog (.func (.func 60) #[] #[]) #[sum_9, v41] H fun v42 H =>
   W.call Try.prog (.func (.func 59) #[] #[]) #[v42] H fun v43 H =>
   W.extract 0 v43 H fun v44 H =>
   W.extract 1 v43 H fun v45 H =>
   W.new [(.int .i64 0), (.int .i64 0)] 47 H fun v46 H =>
   W.putN 2 v46 v44 H fun _ H =>
   W.getN 2 v46 H fun v47 H =>
   W.putN 2 v2 v47 H fun _ H =>
   W.getN 2 v2 H fun v48 H => Q (.tuple #[v48, v45]) H)
def f24.w (Q : Post) (p_0 : Value) (x_1 : Value) (H : Heap) : Prop :=
  W.box p_0 39 H fun v1 H =>
  W.new [(.int .i64 0), (.int .i64 0)] 47 H fun v2 H =>
  W.getN 4 v1 H fun v3 H =>
  W.call Try.prog (.func (.func 58) #[] #[]) #[v3, x_1] H fun v4 H =>
  W.extract 0 v4 H fun v5 H =>
  W.extract 1 v4 H fun v6 H =>
  W.extract 2 v4 H fun v7 H =>
  W.bin .neq v7 (.int .i64 0) H fun v8 H =>
  W.cond v8 H
  (fun H => W.build [(.int .i64 0), (.int .i64 0)] [] H fun v9 H =>
   W.putN 2 v2 v9 H fun _ H =>
   W.getN 2 v2 H fun v10 H => Q (.tuple #[v10, v7]) H)
  (fun H => W.loop (S := St [9, 10]) (fun I1 s H => f24.l1 Q v5 v1 v6 v2 I1 s.1 s.2.1 H) ((.int .i64 0), (.int .i64 0), ()) H)
theorem f24.enter {Q : Post} {p_0 : Value} {x_1 : Value} {H : Heap} (h : f24.w Q p_0 x_1 H) : Runs Try.prog 24 #[p_0, x_1] H Q :=
  fn_enter (ann := [(6, [9, 10]), (10, [9, 11])]) (by kernel_rfl) Try.func24 rfl (by kernel_rfl) h (by kernel_rfl)


theorem fn58 {H0 : Heap} {Q : Post} {cs : List Value} {vx : Value} {p : Prg} {xs : List Frac} (hr : Has RPrg H0 cs p) (hx : Has RFS H0 [vx] xs) (hw : wPrg p ≤ 1048576) (hl : xs.length ≤ 1048576)
    (e1 : ¬ (IsPrg p ∧ Frs xs) → ∀ H', H0.Le H' → Q (.tuple #[.slice none 0 0, .int .i64 0, .int .i64 1]) H')
    (e2 : IsPrg p → Frs xs → xs.length ≠ p.2.1.length → ∀ H', H0.Le H' → Q (.tuple #[.slice none 0 0, .int .i64 0, .int .i64 2]) H')
    (e3 : IsPrg p → Frs xs → xs.length = p.2.1.length → tog 10000 10000000 xs = none → ∀ H', H0.Le H' → Q (.tuple #[.slice none 0 0, .int .i64 0, .int .i64 3]) H')
    (e4 : IsPrg p → Frs xs → xs.length = p.2.1.length → ∀ l d, tog 10000 10000000 xs = some (l, d) → ∀ H' u, Fresh RS H0 [u] l H' → Q (.tuple #[u, .int .i64 d, .int .i64 0]) H') :
    Runs Try.prog 58 #[.agg cs.toArray, vx] H0 Q := by
  obtain ⟨u1, u2, u3, u4, rfl, r1, r2, r3, r4⟩ := hasPrg hr
  refine f58.enter ?_
  unfold f58.w
  have h := ((Loc.start H0).lent hx).lent hr
  refine Wl.box h fun H b h => Wl.getA h rfl (Wl.lit0 RFrac rfl h fun H y h => Wi.call (fn54 (h.rd (cs := [u1, u2, u3, u4])) (h.rd (cs := [vx])) (h.rd (cs := [y])) hw (fun g H l => ?_) (fun hp hf g H l => ?_) fun hp hf he H l => ?_))
  · have h := h.to l
    exact Wi.neqC (fun _ => Wi.tru (e1 g _ h.le)) fun e => absurd e (by decide)
  · have h := h.to l
    exact Wi.neqC (fun _ => Wi.tru (e2 hp hf g _ h.le)) fun e => absurd e (by decide)
  have h := h.to l
  have none_of : (∀ l d, tog 1000000000 1000000000000 xs = some (l, d) → ¬ (d ≤ 10000 ∧ ∀ a ∈ l, -10000000 ≤ a ∧ a ≤ 10000000)) → tog 10000 10000000 xs = none := fun g => by
    cases ht : tog 10000 10000000 xs with
    | none => rfl
    | some q =>
      obtain ⟨l, d⟩ := q
      have := (tog_small hf).1 ht
      exact absurd this.2 (g _ _ this.1)
  refine Wi.neqC (fun e => absurd rfl e) fun _ => Wi.fls (Wi.call (fn55 (h.rd (cs := [vx])) hf hl (fun g H l => ?_) fun l d g H u f => ?_))
  · have h := h.to l
    simp only [gw]
    exact e3 hp hf he (none_of fun l d e => by rw [g] at e; cases e) _ h.le
  have h := h.add f.fresh
  have only : ∀ l' d', tog 1000000000 1000000000000 xs = some (l', d') → l' = l ∧ d' = d := fun l' d' e => by
    rw [g] at e
    simp only [Option.some.injEq, Prod.mk.injEq] at e
    exact ⟨e.1.symm, e.2.symm⟩
  obtain ⟨f1, f2, f3, f4⟩ := tog_facts hf (by omega) g
  simp only [gw]
  refine Wi.gtrC (fun hgt => ?_) fun hle => ?_
  · simp only [gw]
    refine e3 hp hf he (none_of fun l' d' e g' => ?_) _ h.le
    obtain ⟨rfl, rfl⟩ := only _ _ e
    omega
  simp only [gw]
  refine W.all_rule l.length (fun i => inR (-10000000) 10000000 (l.getD i 0)) (fun i H1 J hi _ l1 hJ => ?_) fun H1 J hall l1 => ?_
  · have h := h.to l1
    have := hp.n1; have := hp.nm
    refine Wl.len h (Wi.lssC (fun _ => Wi.tru ?_) fun h => by omega)
    refine Wl.atInt h hi fun _ => Wi.call (fn74 (Wi.not ?_))
    cases hin : inR (-10000000) 10000000 l[i] with
    | false =>
      refine Wi.tru (e3 hp hf he (none_of fun l' d' e g' => ?_) _ h.le)
      obtain ⟨rfl, rfl⟩ := only _ _ e
      rw [inR_iff.2 (g'.2 _ (List.getElem_mem hi))] at hin
      cases hin
    | true => exact Wi.fls (Wi.add (by unfold I64; omega) (hJ (by rw [getD_at hi]; exact hin) _ (.refl _)))
  · have h := h.to l1
    refine Wl.len h (Wi.lssC (fun h => by omega) fun _ => Wi.fls (e4 hp hf he l d ((tog_small hf).2 ⟨g, by omega, fun a ha => ?_⟩) _ _ (h.ret (i := 0) rfl)))
    obtain ⟨i, hi, rfl⟩ := List.mem_iff_getElem.1 ha
    have := hall i hi
    rw [getD_at hi] at this
    exact inR_iff.1 this


abbrev vaT (l : List Int) (p : Prg) (i : Nat) : Nat → Int := fun k => l.getD i 0 * (p.1.getD i []).getD k 0 * l.getD k 0
abbrev vaF (p : Prg) (l : List Int) (d : Int) : Nat → Int := fun i => 2 * p.2.1.getD i 0 * l.getD i 0 * d + sumTo (vaT l p i) p.2.1.length

theorem vaS_eq {p : Prg} (hp : IsPrg p) (l : List Int) {i : Nat} (hi : i < p.2.1.length) : sumTo (vaT l p i) p.2.1.length = l.getD i 0 * dot (p.1.getD i []) l := by
  have dl := hp.dl
  have hix : i < p.1.length := by omega
  have hl := (hp.d _ (List.getElem_mem hix)).1
  unfold dot
  rw [← sumTo_mul, getD_row hix, hl]
  refine sumTo_congr fun k _ => ?_
  simp only [vaT, dotF]
  rw [getD_row hix, Int.mul_assoc]

theorem vaF_eq {p : Prg} (hp : IsPrg p) (l : List Int) (d : Int) : sumTo (vaF p l d) p.2.1.length = vaNum p l d := by
  have dl := hp.dl
  have e1 : sumTo (vaF p l d) p.2.1.length = sumTo (fun i => 2 * d * dotF p.2.1 l i + l.getD i 0 * dot (p.1.getD i []) l) p.2.1.length := sumTo_congr fun i hi => by
    simp only [vaF, dotF]
    rw [vaS_eq hp l hi]
    congr 1
    rw [Int.mul_assoc (2 * p.2.1.getD i 0), Int.mul_assoc 2, Int.mul_assoc 2, Int.mul_left_comm d, Int.mul_comm d]
  rw [e1, sumTo_add, sumTo_mul]
  unfold vaNum formV dot
  rw [dl, Int.add_comm]

theorem vaT_abs {p : Prg} (hp : IsPrg p) {l : List Int} (hA : ∀ e ∈ l, e.natAbs ≤ 10000000) (i k : Nat) : (vaT l p i k).natAbs ≤ 10000000 * 20 * 10000000 := by
  refine mul_abs (mul_abs (getD_abs hA i) ?_) (getD_abs hA k)
  by_cases hi : i < p.1.length
  · rw [getD_row hi]
    exact getD_abs (fun e he => by have := (hp.d _ (List.getElem_mem hi)).2 e he; omega) k
  · simp [List.getD_eq_getElem?_getD, List.getElem?_eq_none (show p.1.length ≤ i by omega)]


def LeA (x : Int) (B : Nat) : Prop := x.natAbs ≤ B
theorem LeA.add {x y : Int} {A B : Nat} (h1 : LeA x A) (h2 : LeA y B) : LeA (x + y) (A + B) := by unfold LeA at *; omega
theorem LeA.i64 {x : Int} {A : Nat} (h : LeA x A) (hA : A < 9223372036854775808) : I64 x := abs_i64 h hA
theorem i64_succ {k n : Nat} (h : k ≤ n) (hn : n ≤ 5) : I64 ((k : Int) + 1) := by unfold I64; omega
theorem abs20 {x : Int} (h : -20 ≤ x ∧ x ≤ 20) : LeA x 20 := by unfold LeA; omega
theorem abs100 {x : Int} (h : -100 ≤ x ∧ x ≤ 100) : LeA x 100 := by unfold LeA; omega

theorem va_l2 {H0 H : Heap} {Q : Post} {L : List (Atom H0.next)} {vu u1 u2 u3 u4 : Value} {b : Nat} {p : Prg} {l : List Int} (h : Ab.Loc H0 L H) [RdV L [vu] RS l] [RdV L [u1] RSS p.1] [RdB L b [u1, u2, u3, u4]] (hp : IsPrg p) (hl : l.length = p.2.1.length) (hA : ∀ e ∈ l, e.natAbs ≤ 10000000)
    {i : Nat} (hic : i < p.2.1.length) {J : St [9, 10] → Heap → Prop} {c : Int} (hc : LeA c 60000000000000000) (hJ : J (.int .i64 (c + sumTo (vaT l p i) p.2.1.length), .int .i64 ((i + 1 : Nat) : Int), ()) H) :
    W.loop (S := St [9, 11]) (fun I2 s H => f24.l2 Q vu (.int .i64 (i : Nat)) (pt b 0) J I2 s.1 s.2.1 H) (.int .i64 c, .int .i64 0, ()) H := by
  have n1 := hp.n1; have nm := hp.nm; have dl := hp.dl
  have hil : i < l.length := by omega
  have hid : i < p.1.length := by omega
  have hrow := hp.d _ (List.getElem_mem hid)
  have hrl := hrow.1
  have n5 : p.2.1.length ≤ 5 := by omega
  refine W.for_rule p.2.1.length (fun k s H' => H' = H ∧ s = (.int .i64 (c + sumTo (vaT l p i) k), .int .i64 (k : Nat), ())) ⟨rfl, by simp only [sumTo, Int.add_zero]; rfl⟩ ?_
  rintro k s H2 J3 hk ⟨rfl, rfl⟩ hJ3
  refine Wl.len h (Wi.lssC (fun hlt2 => Wi.tru ?_) fun hge2 => Wi.fls ?_)
  · have hkl : k < l.length := by omega
    have hkd : k < p.1[i].length := by omega
    have hkn : k < p.2.1.length := by omega
    have hk5 : k ≤ 5 := by omega
    have s1 : LeA (sumTo (vaT l p i) k) (5 * (10000000 * 20 * 10000000)) := Nat.le_trans (sumTo_abs fun j _ => vaT_abs hp hA i j) (mul5 hk5)
    have t1 : LeA _ _ := vaT_abs hp hA i k
    have e1 : vaT l p i k = l[i] * p.1[i][k] * l[k] := by simp only [vaT]; rw [getD_at hil, getD_row hid, getD_at hkd, getD_at hkl]
    rw [e1] at t1
    have o1 : I64 (l[i] * p.1[i][k]) := abs_i64 (mul_abs (hA _ (List.getElem_mem hil)) (abs20 (hrow.2 _ (List.getElem_mem hkd)))) (by decide)
    refine Wl.atInt h hil fun _ => Wi.fieldAddr0 (Wl.get h rfl (Wl.at1 rfl h hid fun w hw => Wl.atIntH hw hkd fun _ => Wi.mul o1 (Wl.atInt h hkl fun _ => Wi.mul (t1.i64 (by decide)) (Wi.add (((hc.add s1).add t1).i64 (by decide)) ?_))))
    refine Wi.add (i64_succ hk5 (Nat.le_refl _)) (hJ3 _ _ hkn ⟨rfl, ?_⟩)
    simp only [sumTo]
    rw [e1, ← Int.add_assoc]
    rfl
  · have : k = p.2.1.length := by omega
    subst this
    exact Wi.add (i64_succ (show i ≤ 5 by omega) (Nat.le_refl _)) hJ


theorem vaTerm_abs {p : Prg} (hp : IsPrg p) {l : List Int} {d : Int} (hd : LeA d 10000) (hA : ∀ e ∈ l, e.natAbs ≤ 10000000) (i : Nat) : LeA (2 * p.2.1.getD i 0 * l.getD i 0 * d) (2 * 100 * 10000000 * 10000) :=
  mul_abs (mul_abs (mul_abs (by decide) (getD_abs (fun e he => abs100 (hp.c e he)) i)) (getD_abs hA i)) hd

theorem vaF_abs {p : Prg} (hp : IsPrg p) {l : List Int} {d : Int} (hd : LeA d 10000) (hA : ∀ e ∈ l, e.natAbs ≤ 10000000) {n : Nat} (hn : n ≤ 5) (h5 : p.2.1.length ≤ 5) : LeA (sumTo (vaF p l d) n) (5 * (2 * 100 * 10000000 * 10000 + 5 * (10000000 * 20 * 10000000))) :=
  Nat.le_trans (sumTo_abs fun i _ => (vaTerm_abs hp hd hA i).add (show LeA _ _ from Nat.le_trans (sumTo_abs fun j _ => vaT_abs hp hA i j) (mul5 h5))) (mul5 hn)

theorem fn24 {H0 : Heap} {Q : Post} {cs : List Value} {vx : Value} {p : Prg} {xs : List Frac} (hr : Has RPrg H0 cs p) (hx : Has RFS H0 [vx] xs) (hw : wPrg p ≤ 1048576) (hl : xs.length ≤ 1048576)
    (hQ : ∀ H', H0.Le H' → Q (.tuple #[.agg (frC (vaRes p xs).1).toArray, .int .i64 (vaRes p xs).2]) H') : Runs Try.prog 24 #[.agg cs.toArray, vx] H0 Q := by
  obtain ⟨u1, u2, u3, u4, rfl, r1, r2, r3, r4⟩ := hasPrg hr
  refine f24.enter ?_
  unfold f24.w
  have hz : ∀ H (a : Frac) c, H0.Le H → vaRes p xs = (a, c) → Q (.tuple #[.agg (frC a).toArray, .int .i64 c]) H := fun H a c l e => by
    have := hQ H l
    rw [e] at this
    exact this
  have h := ((((Loc.start H0).lent hx).lent r2).lent r1).lent hr
  refine Wl.box h fun H b h => Wl.new h fun H b2 h => Wl.getA h rfl (Wi.call (fn58 (h.rd (cs := [u1, u2, u3, u4])) (h.rd (cs := [vx])) hw hl (fun g H l => ?_) (fun hp hf g H l => ?_) (fun hp hf he g H l => ?_) fun hp hf he l d g H u f => ?_))
  · have h := h.to l
    simp only [gw]
    exact Wi.neqC (fun _ => Wi.tru (Wi.build (cells := frC (0, 0)) rfl (Wl.putA h rfl rfl rfl fun H h => Wl.getA h rfl (hz _ _ _ h.le (by simp only [vaRes, if_neg g]))))) fun e => absurd e (by decide)
  · have h := h.to l
    simp only [gw]
    exact Wi.neqC (fun _ => Wi.tru (Wi.build (cells := frC (0, 0)) rfl (Wl.putA h rfl rfl rfl fun H h => Wl.getA h rfl (hz _ _ _ h.le (by simp only [vaRes, if_pos (And.intro hp hf), if_neg g]))))) fun e => absurd e (by decide)
  · have h := h.to l
    simp only [gw]
    exact Wi.neqC (fun _ => Wi.tru (Wi.build (cells := frC (0, 0)) rfl (Wl.putA h rfl rfl rfl fun H h => Wl.getA h rfl (hz _ _ _ h.le (by simp only [vaRes, if_pos (And.intro hp hf), if_pos he, g]))))) fun e => absurd e (by decide)
  have h := h.add f
  obtain ⟨f1, f2, f3, f4⟩ := tog_facts hf (by omega) g
  have hll : l.length = p.2.1.length := f1.trans he
  have fa := abs7 f4
  have n1 := hp.n1; have nm := hp.nm; have dl := hp.dl
  have n5 : p.2.1.length ≤ 5 := by omega
  have hdA : LeA d 10000 := by unfold LeA; omega
  obtain ⟨b1, b2', b3, b4⟩ := va_bounds hp hll ⟨f2, f3⟩ fa
  have hres : vaRes p xs = fracT (vaNum p l d) (2 * d * d) := by simp only [vaRes, if_pos (And.intro hp hf), if_pos he, g]
  simp only [gw]
  refine Wi.neqC (fun e => absurd rfl e) fun _ => Wi.fls ?_
  refine W.for_rule p.2.1.length (fun i s H' => H' = H ∧ s = (.int .i64 (sumTo (vaF p l d) i), .int .i64 (i : Nat), ())) ⟨rfl, rfl⟩ ?_
  rintro i s H2 J hi ⟨rfl, rfl⟩ hJ
  refine Wl.len h (Wi.lssC (fun hlt => Wi.tru ?_) fun hge => Wi.fls ?_)
  · have hic : i < p.2.1.length := by omega
    have hil : i < l.length := by omega
    have t1 := vaTerm_abs hp hdA fa i
    have s1 := vaF_abs hp hdA fa (n := i) (by omega) n5
    rw [getD_at hic, getD_at hil] at t1
    have k1 := abs100 (hp.c _ (List.getElem_mem hic))
    have o1 : I64 (2 * p.2.1[i]) := abs_i64 (mul_abs (A := 2) (by decide) k1) (by decide)
    have o2 : I64 (2 * p.2.1[i] * l[i]) := abs_i64 (mul_abs (mul_abs (A := 2) (by decide) k1) (fa _ (List.getElem_mem hil))) (by decide)
    refine Wi.fieldAddr0 (Wl.get h rfl (Wl.atInt h hic fun _ => Wi.mul o1 (Wl.atInt h hil fun _ => Wi.mul o2 (Wi.mul (t1.i64 (by decide)) (Wi.add ((s1.add t1).i64 (by decide)) ?_)))))
    refine va_l2 (u1 := u1) (u2 := u2) (u3 := u3) (u4 := u4) h hp hll fa hic (Nat.le_trans (s1.add t1) (by decide)) ?_
    have := hJ (.int .i64 (sumTo (vaF p l d) (i + 1)), .int .i64 ((i + 1 : Nat) : Int), ()) H2 hic ⟨rfl, rfl⟩
    simp only [sumTo, vaF] at this
    rw [getD_at hic, getD_at hil, ← Int.add_assoc] at this
    exact this
  · have : i = p.2.1.length := by omega
    subst this
    rw [vaF_eq hp]
    have hd0 : 2 * d * d ≠ 0 := by
      have : 0 < 2 * d * d := Int.mul_pos (by omega) (by omega)
      omega
    have o1 : B64 (vaNum p l d) := by unfold vaNum B64; omega
    refine Wi.mul (by unfold I64; omega) (Wi.mul (by unfold I64; omega) (Wi.call (fn60 o1 (by unfold B64; omega) hd0 fun H l1 => Wi.call (fn59 fun H2 l2 => ?_))))
    have h := h.to (l1.trans l2)
    simp only [g11, g12]
    refine Wl.new h fun H b3 h => Wl.putA (vs := frC _) h rfl rfl rfl fun H h => Wl.getA h rfl (Wl.putA (vs := frC _) h rfl rfl rfl fun H h => Wl.getA h rfl ?_)
    have := hQ _ h.le
    rw [hres] at this
    exact this

end Go.Proofs.Ytdbdmlfnggbdiaa
