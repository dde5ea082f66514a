/- Contracts of StepByRule, RunByRule and CountEnds, the program's and the reference's. No condition. -/
import Derived.Test.YthfcodelpebjcaaGSR
import Derived.Test.YthfcodelpebjcaaCV1
namespace Go.Proofs.Ythfcodelpebjcaa
open Go.Ab

/- loop.example/g01343/impl.StepByRule -/
def f11.w (Q : Post) (p_0 : Value) (s_1 : Value) (rule_2 : Value) (H : Heap) : Prop :=
  W.box p_0 27 H fun v1 H =>
  W.getN 2 v1 H fun v2 H =>
  W.call Try.prog (.func (.func 33) #[] #[]) #[v2, s_1, rule_2] H fun v3 H =>
  W.bin .neq v3 (.int .i64 0) H fun v4 H =>
  W.cond v4 H
  (fun H => Q (.tuple #[(.int .i64 0), v3]) H)
  (fun H => W.getN 2 v1 H fun v5 H =>
   W.call Try.prog (.func (.func 37) #[] #[]) #[v5, s_1] H fun v6 H =>
   W.extract 0 v6 H fun v7 H =>
   W.extract 1 v6 H fun v8 H =>
   W.extract 2 v6 H fun v9 H =>
   W.un .not v9 H fun v10 H =>
   W.cond v10 H
   (fun H => Q (.tuple #[(.int .i64 0), (.int .i64 5)]) H)
   (fun H => W.call Try.prog (.func (.func 38) #[] #[]) #[v7, rule_2] H fun v11 H =>
    W.bin .eql v11 (.int .i64 0) H fun v12 H =>
    W.cond v12 H
    (fun H => Q (.tuple #[(.int .i64 0), (.int .i64 4)]) H)
    (fun H => W.bin .xor s_1 v11 H fun v13 H =>
     Q (.tuple #[v13, (.int .i64 0)]) H)))
theorem f11.enter {Q : Post} {p_0 : Value} {s_1 : Value} {rule_2 : Value} {H : Heap} (h : f11.w Q p_0 s_1 rule_2 H) : Runs Try.prog 11 #[p_0, s_1, rule_2] H Q :=
  fn_enter (ann := []) (by kernel_rfl) Try.func11 rfl (by kernel_rfl) h (by kernel_rfl)

/- loop.example/g01343/spec.StepByRule -/
def f12.w (Q : Post) (p_0 : Value) (s_1 : Value) (rule_2 : Value) (H : Heap) : Prop :=
  W.box p_0 27 H fun v1 H =>
  W.getN 2 v1 H fun v2 H =>
  W.call Try.prog (.func (.func 35) #[] #[]) #[v2, s_1, rule_2] H fun v3 H =>
  W.bin .neq v3 (.int .i64 0) H fun v4 H =>
  W.cond v4 H
  (fun H => Q (.tuple #[(.int .i64 0), v3]) H)
  (fun H => W.getN 2 v1 H fun v5 H =>
   W.call Try.prog (.func (.func 39) #[] #[]) #[v5, s_1, rule_2] H fun v6 H =>
   W.extract 0 v6 H fun v7 H =>
   W.extract 1 v6 H fun v8 H =>
   W.extract 2 v6 H fun v9 H =>
   W.un .not v9 H fun v10 H =>
   W.cond v10 H
   (fun H => Q (.tuple #[(.int .i64 0), (.int .i64 5)]) H)
   (fun H => W.un .not v8 H fun v11 H =>
    W.cond v11 H
    (fun H => Q (.tuple #[(.int .i64 0), (.int .i64 4)]) H)
    (fun H => Q (.tuple #[v7, (.int .i64 0)]) H)))
theorem f12.enter {Q : Post} {p_0 : Value} {s_1 : Value} {rule_2 : Value} {H : Heap} (h : f12.w Q p_0 s_1 rule_2 H) : Runs Try.prog 12 #[p_0, s_1, rule_2] H Q :=
  fn_enter (ann := []) (by kernel_rfl) Try.func12 rfl (by kernel_rfl) h (by kernel_rfl)

/- loop.example/g01343/impl.RunByRule -/
def f7.w (Q : Post) (p_0 : Value) (s_1 : Value) (rule_2 : Value) (H : Heap) : Prop :=
  W.box p_0 27 H fun v1 H =>
  W.getN 2 v1 H fun v2 H =>
  W.call Try.prog (.func (.func 33) #[] #[]) #[v2, s_1, rule_2] H fun v3 H =>
  W.bin .neq v3 (.int .i64 0) H fun v4 H =>
  W.cond v4 H
  (fun H => Q (.tuple #[(.slice none 0 0), (.int .i64 0), v3]) H)
  (fun H => W.getN 2 v1 H fun v5 H =>
   W.call Try.prog (.func (.func 34) #[] #[]) #[v5, s_1, rule_2] H fun v6 H =>
   W.extract 0 v6 H fun v7 H =>
   W.extract 1 v6 H fun v8 H =>
   Q (.tuple #[v7, v8, (.int .i64 0)]) H)
theorem f7.enter {Q : Post} {p_0 : Value} {s_1 : Value} {rule_2 : Value} {H : Heap} (h : f7.w Q p_0 s_1 rule_2 H) : Runs Try.prog 7 #[p_0, s_1, rule_2] H Q :=
  fn_enter (ann := []) (by kernel_rfl) Try.func7 rfl (by kernel_rfl) h (by kernel_rfl)

/- loop.example/g01343/spec.RunByRule -/
def f8.w (Q : Post) (p_0 : Value) (s_1 : Value) (rule_2 : Value) (H : Heap) : Prop :=
  W.box p_0 27 H fun v1 H =>
  W.getN 2 v1 H fun v2 H =>
  W.call Try.prog (.func (.func 35) #[] #[]) #[v2, s_1, rule_2] H fun v3 H =>
  W.bin .neq v3 (.int .i64 0) H fun v4 H =>
  W.cond v4 H
  (fun H => Q (.tuple #[(.slice none 0 0), (.int .i64 0), v3]) H)
  (fun H => W.getN 2 v1 H fun v5 H =>
   W.call Try.prog (.func (.func 36) #[] #[]) #[v5, s_1, rule_2] H fun v6 H =>
   W.extract 0 v6 H fun v7 H =>
   W.extract 1 v6 H fun v8 H =>
   Q (.tuple #[v7, v8, (.int .i64 0)]) H)
theorem f8.enter {Q : Post} {p_0 : Value} {s_1 : Value} {rule_2 : Value} {H : Heap} (h : f8.w Q p_0 s_1 rule_2 H) : Runs Try.prog 8 #[p_0, s_1, rule_2] H Q :=
  fn_enter (ann := []) (by kernel_rfl) Try.func8 rfl (by kernel_rfl) h (by kernel_rfl)

/- loop.example/g01343/impl.CountEnds -/
def f14.l1 (Q : Post) (v7 : Value) (v1 : Value) (rule_1 : Value) (v5 : Value) (I1 : St [20] → Heap → Prop) (x_20 : Value) (H : Heap) : Prop :=
  W.bin .lss x_20 v7 H fun v8 H =>
  W.cond v8 H
  (fun H => W.getN 2 v1 H fun v9 H =>
   W.call Try.prog (.func (.func 34) #[] #[]) #[v9, x_20, rule_1] H fun v10 H =>
   W.extract 0 v10 H fun v11 H =>
   W.extract 1 v10 H fun v12 H =>
   W.indexAddr 1 v5 v12 H fun v13 H =>
   W.get v13 H fun v14 H =>
   W.bin .add v14 (.int .i64 1) H fun v15 H =>
   W.indexAddr 1 v5 v12 H fun v16 H =>
   W.put v16 v15 H fun _ H =>
   W.bin .add x_20 (.int .i64 1) H fun v17 H =>
   I1 (v17, ()) H)
  (fun H => Q (.tuple #[v5, (.int .i64 0)]) H)
def f14.w (Q : Post) (p_0 : Value) (rule_1 : Value) (H : Heap) : Prop :=
  W.box p_0 27 H fun v1 H =>
  W.getN 2 v1 H fun v2 H =>
  W.call Try.prog (.func (.func 33) #[] #[]) #[v2, (.int .i64 0), rule_1] H fun v3 H =>
  W.bin .neq v3 (.int .i64 0) H fun v4 H =>
  W.cond v4 H
  (fun H => Q (.tuple #[(.slice none 0 0), v3]) H)
  (fun H => W.make [(.int .i64 0)] 2 (.int .i64 3) (.int .i64 3) H fun v5 H =>
   W.getN 2 v1 H fun v6 H =>
   W.call Try.prog (.func (.func 41) #[] #[]) #[v6] H fun v7 H =>
   W.loop (S := St [20]) (fun I1 s H => f14.l1 Q v7 v1 rule_1 v5 I1 s.1 H) ((.int .i64 0), ()) H)
theorem f14.enter {Q : Post} {p_0 : Value} {rule_1 : Value} {H : Heap} (h : f14.w Q p_0 rule_1 H) : Runs Try.prog 14 #[p_0, rule_1] H Q :=
  fn_enter (ann := [(6, [20])]) (by kernel_rfl) Try.func14 rfl (by kernel_rfl) h (by kernel_rfl)

/- loop.example/g01343/spec.CountEnds -/
def f15.l1 (Q : Post) (v1 : Value) (rule_1 : Value) (v5 : Value) (I1 : St [8] → Heap → Prop) (s_8 : Value) (H : Heap) : Prop :=
  W.fieldAddr 1 v1 H fun v6 H =>
  W.get v6 H fun v7 H =>
  W.len v7 H fun v8 H =>
  W.conv .u64 v8 H fun v9 H =>
  W.bin .shl (.int .i64 1) v9 H fun v10 H =>
  W.bin .lss s_8 v10 H fun v11 H =>
  W.cond v11 H
  (fun H => W.getN 2 v1 H fun v12 H =>
   W.call Try.prog (.func (.func 36) #[] #[]) #[v12, s_8, rule_1] H fun v13 H =>
   W.extract 0 v13 H fun v14 H =>
   W.extract 1 v13 H fun v15 H =>
   W.indexAddr 1 v5 v15 H fun v16 H =>
   W.get v16 H fun v17 H =>
   W.bin .add v17 (.int .i64 1) H fun v18 H =>
   W.indexAddr 1 v5 v15 H fun v19 H =>
   W.put v19 v18 H fun _ H =>
   W.bin .add s_8 (.int .i64 1) H fun v20 H =>
   I1 (v20, ()) H)
  (fun H => Q (.tuple #[v5, (.int .i64 0)]) H)
def f15.w (Q : Post) (p_0 : Value) (rule_1 : Value) (H : Heap) : Prop :=
  W.box p_0 27 H fun v1 H =>
  W.getN 2 v1 H fun v2 H =>
  W.call Try.prog (.func (.func 35) #[] #[]) #[v2, (.int .i64 0), rule_1] H fun v3 H =>
  W.bin .neq v3 (.int .i64 0) H fun v4 H =>
  W.cond v4 H
  (fun H => Q (.tuple #[(.slice none 0 0), v3]) H)
  (fun H => W.make [(.int .i64 0)] 2 (.int .i64 3) (.int .i64 3) H fun v5 H =>
   W.loop (S := St [8]) (fun I1 s H => f15.l1 Q v1 rule_1 v5 I1 s.1 H) ((.int .i64 0), ()) H)
theorem f15.enter {Q : Post} {p_0 : Value} {rule_1 : Value} {H : Heap} (h : f15.w Q p_0 rule_1 H) : Runs Try.prog 15 #[p_0, rule_1] H Q :=
  fn_enter (ann := [(6, [8])]) (by kernel_rfl) Try.func15 rfl (by kernel_rfl) h (by kernel_rfl)


/-- The code of a problem, a set and a rule. -/
def ruC2 (p : Prob) (s rule : Int) : Int := if isProb p = true then (if setOk p.2.length s = true ∧ inR 0 3 rule = true then 0 else 2) else 1

theorem ruC2_eq {p : Prob} {s rule : Int} (h : ruC2 p s rule = 0) : isProb p = true ∧ setOk p.2.length s = true ∧ 0 ≤ rule ∧ rule ≤ 3 := by
  unfold ruC2 at h
  by_cases h1 : isProb p = true
  · rw [if_pos h1] at h
    by_cases h2 : setOk p.2.length s = true ∧ inR 0 3 rule = true
    · exact ⟨h1, h2.1, inR_iff.1 h2.2⟩
    · rw [if_neg h2] at h; cases h
  · rw [if_neg h1] at h; cases h

theorem setOk_ex {n : Nat} {s : Int} (h : setOk n s = true) : ∃ k : Nat, s = (k : Int) ∧ k < 2 ^ n := by
  have := inR_iff.1 h
  refine ⟨s.toNat, by omega, ?_⟩
  have h2 := this.2
  omega

theorem fnU33 {H0 : Heap} {Q : Post} {cs : List Value} {p : Prob} {s rule : Int} (hr : Has RProblem H0 cs p) (hQ : ∀ H', H0.Le H' → Q (.int .i64 (ruC2 p s rule)) H') : Runs Try.prog 33 #[.agg cs.toArray, .int .i64 s, .int .i64 rule] H0 Q := by
  have hlen := hr.len
  have h := (Loc.start H0).lent hr
  refine f33.enter (Wl.box h fun H b h => Wl.getA h hlen (Wi.call (fn66 (h.rd (cs := cs)) fun H l => ?_)))
  have h := h.to l
  unfold ruC2 at hQ
  unfold setC
  cases hp : isProb p with
  | false =>
    have := hQ _ h.le
    simp only [hp] at this
    exact Wi.neqC (fun _ => Wi.tru this) fun e => absurd e (by simp)
  | true =>
    cases hs : setOk p.2.length s with
    | false =>
      have := hQ _ h.le
      simp only [hp, hs] at this
      exact Wi.neqC (fun _ => Wi.tru this) fun e => absurd e (by simp)
    | true =>
      simp only [if_true]
      refine Wi.neqC (fun g => absurd rfl g) fun _ => Wi.fls (Wi.call (fn69 ?_))
      have := hQ _ h.le
      cases hru : inR 0 3 rule with
      | false =>
        simp only [gw]
        simp only [hp, hs, hru] at this
        exact this
      | true =>
        simp only [gw]
        simp only [hp, hs, hru] at this
        exact this

theorem fnU35 {H0 : Heap} {Q : Post} {cs : List Value} {p : Prob} {s rule : Int} (hr : Has RProblem H0 cs p) (hQ : ∀ H', H0.Le H' → Q (.int .i64 (ruC2 p s rule)) H') : Runs Try.prog 35 #[.agg cs.toArray, .int .i64 s, .int .i64 rule] H0 Q := by
  obtain ⟨u1, u2, rfl, r1, r2⟩ := hasProb hr
  refine f35.enter ?_
  unfold f35.w
  have h := ((Loc.start H0).lent r2).lent hr
  refine Wl.box h fun H b h => Wl.getA h rfl ?_
  obtain ⟨_, q⟩ := h.rd (cs := [u1, u2])
  refine Wi.call (fn71 q fun H l => ?_)
  have h := h.to l
  unfold ruC2 at hQ
  cases hp : isProb p with
  | false =>
    simp only [gw]
    have := hQ _ h.le
    simp only [hp] at this
    exact this
  | true =>
    simp only [gw]
    have hn := (PB.of hp).n5
    have h32 := pow5 hn
    refine Wi.fieldAddr (Wl.get h rfl (Wl.len h (Wi.convN (by omega) (Wi.shl1 (by omega) (Wi.sub (i64_pow hn) (Wi.call (fn59 ?_)))))))
    show W.un .not (.bool (setOk p.2.length s)) _ _
    cases hs : setOk p.2.length s with
    | false =>
      simp only [gw]
      have := hQ _ h.le
      simp only [hp, hs] at this
      exact this
    | true =>
    simp only [gw]
    refine Wi.call (fn59 ?_)
    have := hQ _ h.le
    cases hru : inR 0 3 rule with
    | false =>
      simp only [gw]
      simp only [hp, hs, hru] at this
      exact this
    | true =>
      simp only [gw]
      simp only [hp, hs, hru] at this
      exact this

def stRes (p : Prob) (s rule : Int) : Int × Int :=
  if ruC2 p s rule = 0 then (if det p.2.length (mAt (colL p.2.length p.1 s.toNat)) = 0 then (0, 5) else if exV (ptOf p.2.length p s.toNat) rule = 0 then (0, 4) else ((stp p.2.length p rule s.toNat : Nat), 0)) else (0, ruC2 p s rule)

theorem fn11 {H0 : Heap} {Q : Post} {cs : List Value} {p : Prob} {s rule : Int} (hr : Has RProblem H0 cs p) (hQ : ∀ H', H0.Le H' → Q (.tuple #[.int .i64 (stRes p s rule).1, .int .i64 (stRes p s rule).2]) H') : Runs Try.prog 11 #[.agg cs.toArray, .int .i64 s, .int .i64 rule] H0 Q := by
  have hlen := hr.len
  have hz : ∀ H a c, H0.Le H → stRes p s rule = (a, c) → Q (.tuple #[.int .i64 a, .int .i64 c]) H := fun H a c l e => by
    have := hQ H l
    rw [e] at this
    exact this
  have h := (Loc.start H0).lent hr
  refine f11.enter (Wl.box h fun H b h => Wl.getA h hlen (Wi.call (fnU33 (h.rd (cs := cs)) fun H l => ?_)))
  have h := h.to l
  refine Wi.neqC (fun hne => Wi.tru (hz _ _ _ h.le (by unfold stRes; rw [if_neg hne]))) fun he => Wi.fls ?_
  obtain ⟨hp, hs, hru⟩ := ruC2_eq he
  obtain ⟨k, rfl, hk⟩ := setOk_ex hs
  have hpb := PB.of hp
  have hn := hpb.n5
  have h32 := pow5 hn
  have hR : stRes p (k : Int) rule = (if det p.2.length (mAt (colL p.2.length p.1 k)) = 0 then (0, 5) else if exV (ptOf p.2.length p k) rule = 0 then (0, 4) else (((stp p.2.length p rule k : Nat) : Int), 0) : Int × Int) := by
    unfold stRes
    rw [if_pos he, Int.toNat_natCast]
  refine Wl.getA h hlen (Wi.call (fn37 (h.rd (cs := cs)) hpb (by omega) (fun hD H l => ?_) fun hD H u f => ?_))
  · simp only [gw]
    exact hz _ _ _ (h.to l).le (by rw [hR, if_pos hD])
  have h := h.add f
  simp only [gw]
  rw [if_neg hD] at hR
  refine Wi.call (fn38 (h.rd (cs := [u])) (by rw [show (pointL p.2.length (colL p.2.length p.1 k) p.2).length = p.2.length by simp [pointL, solveL]]; exact hn) hru ?_)
  have hx := exV_lt (ptOf p.2.length p k) rule
  rw [ptOf_len] at hx
  refine Wi.eqlC (fun h0 => Wi.tru (hz _ _ _ h.le ?_)) fun h0 => Wi.fls ?_
  · have h0 : exV (ptOf p.2.length p k) rule = 0 := by
      have : ((exV (ptOf p.2.length p k) rule : Nat) : Int) = 0 := h0
      omega
    rw [hR, if_pos h0]
  · have h0 : ¬ exV (ptOf p.2.length p k) rule = 0 := fun e => h0 (by
      show ((exV (ptOf p.2.length p k) rule : Nat) : Int) = 0
      omega)
    rw [if_neg h0] at hR
    exact Wi.xorN (by omega) (Nat.lt_of_lt_of_le hx (by omega)) (hz _ _ _ h.le hR)

theorem fn12 {H0 : Heap} {Q : Post} {cs : List Value} {p : Prob} {s rule : Int} (hr : Has RProblem H0 cs p) (hQ : ∀ H', H0.Le H' → Q (.tuple #[.int .i64 (stRes p s rule).1, .int .i64 (stRes p s rule).2]) H') : Runs Try.prog 12 #[.agg cs.toArray, .int .i64 s, .int .i64 rule] H0 Q := by
  have hlen := hr.len
  have hz : ∀ H a c, H0.Le H → stRes p s rule = (a, c) → Q (.tuple #[.int .i64 a, .int .i64 c]) H := fun H a c l e => by
    have := hQ H l
    rw [e] at this
    exact this
  have h := (Loc.start H0).lent hr
  refine f12.enter (Wl.box h fun H b h => Wl.getA h hlen (Wi.call (fnU35 (h.rd (cs := cs)) fun H l => ?_)))
  have h := h.to l
  refine Wi.neqC (fun hne => Wi.tru (hz _ _ _ h.le (by unfold stRes; rw [if_neg hne]))) fun he => Wi.fls ?_
  obtain ⟨hp, hs, hru⟩ := ruC2_eq he
  obtain ⟨k, rfl, hk⟩ := setOk_ex hs
  have hpb := PB.of hp
  have hR : stRes p (k : Int) rule = (if det p.2.length (mAt (colL p.2.length p.1 k)) = 0 then (0, 5) else if exV (ptOf p.2.length p k) rule = 0 then (0, 4) else (((stp p.2.length p rule k : Nat) : Int), 0) : Int × Int) := by
    unfold stRes
    rw [if_pos he, Int.toNat_natCast]
  refine Wl.getA h hlen (Wi.call (fn39 (h.rd (cs := cs)) hpb hk hru (fun hD H l => ?_) (fun hD h0 H l => ?_) fun hD h0 H l => ?_))
  · simp only [gw]
    exact hz _ _ _ (h.to l).le (by rw [hR, if_pos hD])
  · simp only [gw]
    exact hz _ _ _ (h.to l).le (by rw [hR, if_neg hD, if_pos h0])
  · simp only [gw]
    exact hz _ _ _ (h.to l).le (by rw [hR, if_neg hD, if_neg h0])

/-- The sets of a run, and how it ends. -/
noncomputable def rnRes (p : Prob) (s rule : Int) : List Int × Int × Int :=
  if ruC2 p s rule = 0 then (setsL ((List.range ((runOf p.2.length p rule s.toNat).1 + 1)).map (ss p.2.length p rule s.toNat)), (runOf p.2.length p rule s.toNat).2, 0) else ([], 0, ruC2 p s rule)

theorem rnRes_run {p : Prob} {k j : Nat} {rule e : Int} (h : ruC2 p (k : Int) rule = 0) (hr : RunEnd p.2.length p rule k j e) : rnRes p (k : Int) rule = (setsL ((List.range (j + 1)).map (ss p.2.length p rule k)), e, 0) := by
  unfold rnRes
  rw [if_pos h, Int.toNat_natCast, runOf_eq hr]

theorem fn7 {H0 : Heap} {Q : Post} {cs : List Value} {p : Prob} {s rule : Int} (hr : Has RProblem H0 cs p) (hQ : ∀ H' u, Fresh RS H0 [u] (rnRes p s rule).1 H' → Q (.tuple #[u, .int .i64 (rnRes p s rule).2.1, .int .i64 (rnRes p s rule).2.2]) H') : Runs Try.prog 7 #[.agg cs.toArray, .int .i64 s, .int .i64 rule] H0 Q := by
  have hlen := hr.len
  have h := (Loc.start H0).lent hr
  refine f7.enter (Wl.box h fun H b h => Wl.getA h hlen (Wi.call (fnU33 (h.rd (cs := cs)) fun H l => ?_)))
  have h := h.to l
  refine Wi.neqC (fun hne => Wi.tru ?_) fun he => Wi.fls ?_
  · have := hQ H (.slice none 0 0)
    unfold rnRes at this
    rw [if_neg hne] at this
    exact this (fresh_nil h.le)
  obtain ⟨hp, hs, hru⟩ := ruC2_eq he
  obtain ⟨k, rfl, hk⟩ := setOk_ex hs
  refine Wl.getA h hlen (Wi.call (fn34 (h.rd (cs := cs)) (PB.of hp) hk hru fun j e hre H u f => ?_))
  have h := h.add f
  simp only [gw]
  have := hQ H u
  rw [rnRes_run he hre] at this
  exact this (h.ret (i := 0) rfl)

theorem fn8 {H0 : Heap} {Q : Post} {cs : List Value} {p : Prob} {s rule : Int} (hr : Has RProblem H0 cs p) (hQ : ∀ H' u, Fresh RS H0 [u] (rnRes p s rule).1 H' → Q (.tuple #[u, .int .i64 (rnRes p s rule).2.1, .int .i64 (rnRes p s rule).2.2]) H') : Runs Try.prog 8 #[.agg cs.toArray, .int .i64 s, .int .i64 rule] H0 Q := by
  have hlen := hr.len
  have h := (Loc.start H0).lent hr
  refine f8.enter (Wl.box h fun H b h => Wl.getA h hlen (Wi.call (fnU35 (h.rd (cs := cs)) fun H l => ?_)))
  have h := h.to l
  refine Wi.neqC (fun hne => Wi.tru ?_) fun he => Wi.fls ?_
  · have := hQ H (.slice none 0 0)
    unfold rnRes at this
    rw [if_neg hne] at this
    exact this (fresh_nil h.le)
  obtain ⟨hp, hs, hru⟩ := ruC2_eq he
  obtain ⟨k, rfl, hk⟩ := setOk_ex hs
  refine Wl.getA h hlen (Wi.call (fn36 (h.rd (cs := cs)) (PB.of hp) hk hru fun j e hre H u f => ?_))
  have h := h.add f
  simp only [gw]
  have := hQ H u
  rw [rnRes_run he hre] at this
  exact this (h.ret (i := 0) rfl)

/-- How many of the first sets' runs end so. -/
noncomputable def endTo (p : Prob) (rule : Int) (e : Int) (x : Nat) : Nat := ((List.range x).filter fun s => decide ((runOf p.2.length p rule s).2 = e)).length

theorem endTo_in {p : Prob} {rule e : Int} {x : Nat} (h : (runOf p.2.length p rule x).2 = e) : endTo p rule e (x + 1) = endTo p rule e x + 1 := by
  unfold endTo
  rw [List.range_succ, List.filter_append, List.length_append]
  simp [h]
theorem endTo_out {p : Prob} {rule e : Int} {x : Nat} (h : (runOf p.2.length p rule x).2 ≠ e) : endTo p rule e (x + 1) = endTo p rule e x := by
  unfold endTo
  rw [List.range_succ, List.filter_append, List.length_append]
  simp [h]
theorem endTo_le (p : Prob) (rule e : Int) (x : Nat) : endTo p rule e x ≤ x := by
  unfold endTo
  have := List.length_filter_le (fun s => decide ((runOf p.2.length p rule s).2 = e)) (List.range x)
  simpa using this

noncomputable def endL (p : Prob) (rule : Int) (x : Nat) : List Int := [((endTo p rule 0 x : Nat) : Int), ((endTo p rule 1 x : Nat) : Int), ((endTo p rule 2 x : Nat) : Int)]

theorem cls_end {n : Nat} {p : Prob} {rule e : Int} {s k : Nat} (h : cls n p rule s k = some e) : e = 0 ∨ e = 1 ∨ e = 2 := by
  unfold cls at h
  split at h
  · cases h; exact .inr (.inl rfl)
  · split at h
    · cases h; exact .inr (.inr rfl)
    · split at h
      · cases h; exact .inl rfl
      · cases h

theorem endL_step {p : Prob} {rule e : Int} {x : Nat} (h : (runOf p.2.length p rule x).2 = e) (he : e = 0 ∨ e = 1 ∨ e = 2) : ∃ k : Nat, e = (k : Int) ∧ k < 3 ∧ (endL p rule x).set k ((endL p rule x).getD k 0 + 1) = endL p rule (x + 1) := by
  have z : ∀ c : Int, c ≠ e → endTo p rule c (x + 1) = endTo p rule c x := fun c hc => endTo_out (by rw [h]; exact fun g => hc g.symm)
  have o := endTo_in h
  rcases he with rfl | rfl | rfl
  · refine ⟨0, rfl, by decide, ?_⟩
    unfold endL
    rw [o, z 1 (by decide), z 2 (by decide)]
    simp
  · refine ⟨1, rfl, by decide, ?_⟩
    unfold endL
    rw [o, z 0 (by decide), z 2 (by decide)]
    simp
  · refine ⟨2, rfl, by decide, ?_⟩
    unfold endL
    rw [o, z 0 (by decide), z 1 (by decide)]
    simp

theorem endL_sum {p : Prob} {rule : Int} {N : Nat} (h : ∀ x, x < N → ∃ k e, RunEnd p.2.length p rule x k e) : endTo p rule 0 N + endTo p rule 1 N + endTo p rule 2 N = N := by
  induction N with
  | zero => rfl
  | succ N ih =>
    obtain ⟨k, e, hr⟩ := h N (by omega)
    have hre : (runOf p.2.length p rule N).2 = e := by rw [runOf_eq hr]
    have := ih fun x hx => h x (by omega)
    have o := endTo_in hre
    rcases cls_end hr.2 with rfl | rfl | rfl
    · rw [o, endTo_out (e := 1) (by rw [hre]; decide), endTo_out (e := 2) (by rw [hre]; decide)]; omega
    · rw [o, endTo_out (e := 0) (by rw [hre]; decide), endTo_out (e := 2) (by rw [hre]; decide)]; omega
    · rw [o, endTo_out (e := 0) (by rw [hre]; decide), endTo_out (e := 1) (by rw [hre]; decide)]; omega

noncomputable def ceRes (p : Prob) (rule : Int) : List Int × Int := if ruC p rule = 0 then (endL p rule (2 ^ p.2.length), 0) else ([], ruC p rule)

theorem fn14 {H0 : Heap} {Q : Post} {cs : List Value} {p : Prob} {rule : Int} (hr : Has RProblem H0 cs p) (hQ : ∀ H' u, Fresh RS H0 [u] (ceRes p rule).1 H' → Q (.tuple #[u, .int .i64 (ceRes p rule).2]) H') : Runs Try.prog 14 #[.agg cs.toArray, .int .i64 rule] H0 Q := by
  obtain ⟨u1, u2, rfl, r1, r2⟩ := hasProb hr
  have h := ((Loc.start H0).lent r2).lent hr
  refine f14.enter (Wl.box h fun H b h => Wl.getA h rfl (Wi.call (fn33 (h.rd (cs := [u1, u2])) fun H l => ?_)))
  have h := h.to l
  unfold ceRes at hQ
  refine Wi.neqC (fun hne => Wi.tru ?_) fun he => Wi.fls ?_
  · have := hQ H (.slice none 0 0)
    rw [if_neg hne] at this
    exact this (fresh_nil h.le)
  rw [if_pos he] at hQ
  obtain ⟨hp, hru⟩ := ruC_eq he
  have hpb := PB.of hp
  have hn := hpb.n5
  have h32 := pow5 hn
  refine Wl.make (m := 3) (r := Rd.int) (z := 0) (fun _ => ⟨rfl, rfl, by unfold I64; omega⟩) h (by decide) (by decide) fun H u h => ?_
  have h := h.asData (i := 0) rfl
  refine Wl.getA h rfl (Wi.call (f41.enter (Wl.box h fun H b2 h => Wi.fieldAddr (Wl.get h rfl (Wl.len h (Wi.shl1 (by omega) ?_))))))
  have h := h.tl
  have h : Ab.Loc H0 [.data RS [u] (endL p rule 0), .box b [u1, u2], .lent RProblem [u1, u2] p, .lent RS [u2] p.2] H := h
  have hre := fun x (hx : x < 2 ^ p.2.length) => run_exists (n := p.2.length) (p := p) (rule := rule) hx
  generalize hN : 2 ^ p.2.length = N at *
  refine W.for_rule N (fun x st H => st = (.int .i64 (x : Nat), ()) ∧ Ab.Loc H0 [.data RS [u] (endL p rule x), .box b [u1, u2], .lent RProblem [u1, u2] p, .lent RS [u2] p.2] H) ⟨rfl, h⟩ ?_
  rintro x st H J hx ⟨rfl, h⟩ hJ
  refine Wi.lssC (fun hlt => Wi.tru ?_) fun hge => Wi.fls ?_
  · have hxN : x < N := by omega
    refine Wl.getA h rfl (Wi.call (fn34 (h.rd (cs := [u1, u2])) hpb (by rw [hN]; exact hxN) hru fun j e hr1 H w f => ?_))
    have h := (h.add f).tl
    simp only [gw]
    obtain ⟨k, rfl, hk, hset⟩ := endL_step (p := p) (rule := rule) (x := x) (by rw [runOf_eq hr1]) (cls_end hr1.2)
    have hkl : k < (endL p rule x).length := by simp [endL]; omega
    have hb : ((endL p rule x)[k]).natAbs ≤ x := by
      have g0 := endTo_le p rule 0 x
      have g1 := endTo_le p rule 1 x
      have g2 := endTo_le p rule 2 x
      have : k = 0 ∨ k = 1 ∨ k = 2 := by omega
      rcases this with rfl | rfl | rfl <;> simp [endL] <;> omega
    have hI : I64 ((endL p rule x)[k] + 1) := by unfold I64; omega
    refine Wl.atInt h hkl fun _ => Wi.add hI (Wl.setInt (v := u) (j := 0) h hkl hI fun H h => Wi.add (by unfold I64; omega) (hJ _ _ hxN ⟨rfl, ?_⟩))
    have e : (endL p rule x)[k] = (endL p rule x).getD k 0 := by simp [hkl]
    rw [e, hset] at h
    exact h
  · have : x = N := by omega
    subst this
    exact hQ _ _ (h.ret (i := 0) rfl)

theorem fn15 {H0 : Heap} {Q : Post} {cs : List Value} {p : Prob} {rule : Int} (hr : Has RProblem H0 cs p) (hQ : ∀ H' u, Fresh RS H0 [u] (ceRes p rule).1 H' → Q (.tuple #[u, .int .i64 (ceRes p rule).2]) H') : Runs Try.prog 15 #[.agg cs.toArray, .int .i64 rule] H0 Q := by
  obtain ⟨u1, u2, rfl, r1, r2⟩ := hasProb hr
  have h := ((Loc.start H0).lent r2).lent hr
  refine f15.enter (Wl.box h fun H b h => Wl.getA h rfl (Wi.call (fnR35 (h.rd (cs := [u1, u2])) fun H l => ?_)))
  have h := h.to l
  unfold ceRes at hQ
  refine Wi.neqC (fun hne => Wi.tru ?_) fun he => Wi.fls ?_
  · have := hQ H (.slice none 0 0)
    rw [if_neg hne] at this
    exact this (fresh_nil h.le)
  rw [if_pos he] at hQ
  obtain ⟨hp, hru⟩ := ruC_eq he
  have hpb := PB.of hp
  have hn := hpb.n5
  have h32 := pow5 hn
  refine Wl.make (m := 3) (r := Rd.int) (z := 0) (fun _ => ⟨rfl, rfl, by unfold I64; omega⟩) h (by decide) (by decide) fun H u h => ?_
  have h := h.asData (i := 0) rfl
  have h : Ab.Loc H0 [.data RS [u] (endL p rule 0), .box b [u1, u2], .lent RProblem [u1, u2] p, .lent RS [u2] p.2] H := h
  refine W.for_rule (2 ^ p.2.length) (fun x st H => st = (.int .i64 (x : Nat), ()) ∧ Ab.Loc H0 [.data RS [u] (endL p rule x), .box b [u1, u2], .lent RProblem [u1, u2] p, .lent RS [u2] p.2] H) ⟨rfl, h⟩ ?_
  rintro x st H J hx ⟨rfl, h⟩ hJ
  refine Wi.fieldAddr (Wl.get h rfl (Wl.len h (Wi.convN (by omega) (Wi.shl1 (by omega) ?_))))
  generalize hN : 2 ^ p.2.length = N at *
  refine Wi.lssC (fun hlt => Wi.tru ?_) fun hge => Wi.fls ?_
  · have hxN : x < N := by omega
    refine Wl.getA h rfl (Wi.call (fn36 (h.rd (cs := [u1, u2])) hpb (by rw [hN]; exact hxN) hru fun j e hr1 H w f => ?_))
    have h := (h.add f).tl
    simp only [gw]
    obtain ⟨k, rfl, hk, hset⟩ := endL_step (p := p) (rule := rule) (x := x) (by rw [runOf_eq hr1]) (cls_end hr1.2)
    have hkl : k < (endL p rule x).length := by simp [endL]; omega
    have hb : ((endL p rule x)[k]).natAbs ≤ x := by
      have g0 := endTo_le p rule 0 x
      have g1 := endTo_le p rule 1 x
      have g2 := endTo_le p rule 2 x
      have : k = 0 ∨ k = 1 ∨ k = 2 := by omega
      rcases this with rfl | rfl | rfl <;> simp [endL] <;> omega
    have hI : I64 ((endL p rule x)[k] + 1) := by unfold I64; omega
    refine Wl.atInt h hkl fun _ => Wi.add hI (Wl.setInt (v := u) (j := 0) h hkl hI fun H h => Wi.add (by unfold I64; omega) (hJ _ _ hxN ⟨rfl, ?_⟩))
    have e : (endL p rule x)[k] = (endL p rule x).getD k 0 := by simp [hkl]
    rw [e, hset] at h
    exact h
  · have : x = N := by omega
    subst this
    exact hQ _ _ (h.ret (i := 0) rfl)

end Go.Proofs.Ythfcodelpebjcaa
