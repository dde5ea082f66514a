/- Contracts of StepByRule, RunByRule and CountEnds, the program's and the reference's. No condition. -/
import Derived.Test.YthfcodelpebjcaaGreatGSR
import Derived.Test.YthfcodelpebjcaaGreatCV1
namespace Go.Proofs.YthfcodelpebjcaaGreat
open Go.Ab

/- loop.example/g01343/impl.RunByRule -/
def f36.w (Q : Post) (p_0 : Value) (s_1 : Value) (rule_2 : Value) (H : Heap) : Prop :=
  W.box p_0 27 H fun v1 H =>
  W.getN 2 v1 H fun v2 H =>
  W.call Tryz.prog (.func (.func 69) #[] #[]) #[v2, s_1, rule_2] H fun v3 H =>
  W.bin .neq v3 (.int .i64 0) H fun v4 H =>
  W.cond v4 H
  (fun H => Q (.tuple #[(.slice none 0 0), (.int .i64 0), v3]) H)
  (fun H => W.getN 2 v1 H fun v5 H =>
   W.call Tryz.prog (.func (.func 70) #[] #[]) #[v5, s_1, rule_2] H fun v6 H =>
   W.extract 0 v6 H fun v7 H =>
   W.extract 1 v6 H fun v8 H =>
   Q (.tuple #[v7, v8, (.int .i64 0)]) H)
theorem f36.enter {Q : Post} {p_0 : Value} {s_1 : Value} {rule_2 : Value} {H : Heap} (h : f36.w Q p_0 s_1 rule_2 H) : Runs Tryz.prog 36 #[p_0, s_1, rule_2] H Q :=
  fn_enter (ann := []) (by kernel_rfl) Tryz.func36 rfl (by kernel_rfl) h (by kernel_rfl)


/-- The code of a problem, a set and a rule. -/
def ruC2 (p : Prob) (s rule : Int) : Int := if isProb p = true then (if setOk p.2.length s = true ∧ inR 0 3 rule = true then 0 else 2) else 1

theorem ruC2_eq {p : Prob} {s rule : Int} (h : ruC2 p s rule = 0) : isProb p = true ∧ setOk p.2.length s = true ∧ 0 ≤ rule ∧ rule ≤ 3 := by
  unfold ruC2 at h
  by_cases h1 : isProb p = true
  · rw [if_pos h1] at h
    by_cases h2 : setOk p.2.length s = true ∧ inR 0 3 rule = true
    · exact ⟨h1, h2.1, inR_iff.1 h2.2⟩
    · rw [if_neg h2] at h; cases h
  · rw [if_neg h1] at h; cases h

theorem setOk_ex {n : Nat} {s : Int} (h : setOk n s = true) : ∃ k : Nat, s = (k : Int) ∧ k < 2 ^ n := by
  have := inR_iff.1 h
  refine ⟨s.toNat, by omega, ?_⟩
  have h2 := this.2
  omega

theorem fnU69 {H0 : Heap} {Q : Post} {cs : List Value} {p : Prob} {s rule : Int} (hr : Has RProblem H0 cs p) (hQ : ∀ H', H0.Le H' → Q (.int .i64 (ruC2 p s rule)) H') : Runs Tryz.prog 69 #[.agg cs.toArray, .int .i64 s, .int .i64 rule] H0 Q := by
  have hlen := hr.len
  have h := (Loc.start H0).lent hr
  refine f69.enter (Wl.box h fun H b h => Wl.getA h hlen (Wi.call (fn39 (h.rd (cs := cs)) fun H l => ?_)))
  have h := h.to l
  unfold ruC2 at hQ
  unfold setC
  cases hp : isProb p with
  | false =>
    have := hQ _ h.le
    simp only [hp] at this
    exact Wi.neqC (fun _ => Wi.tru this) fun e => absurd e (by simp)
  | true =>
    cases hs : setOk p.2.length s with
    | false =>
      have := hQ _ h.le
      simp only [hp, hs] at this
      exact Wi.neqC (fun _ => Wi.tru this) fun e => absurd e (by simp)
    | true =>
      simp only [if_true]
      refine Wi.neqC (fun g => absurd rfl g) fun _ => Wi.fls (Wi.call (fn57 ?_))
      have := hQ _ h.le
      cases hru : inR 0 3 rule with
      | false =>
        simp only [gw]
        simp only [hp, hs, hru] at this
        exact this
      | true =>
        simp only [gw]
        simp only [hp, hs, hru] at this
        exact this

theorem fnU42 {H0 : Heap} {Q : Post} {cs : List Value} {p : Prob} {s rule : Int} (hr : Has RProblem H0 cs p) (hQ : ∀ H', H0.Le H' → Q (.int .i64 (ruC2 p s rule)) H') : Runs Tryz.prog 42 #[.agg cs.toArray, .int .i64 s, .int .i64 rule] H0 Q := by
  obtain ⟨u1, u2, rfl, r1, r2⟩ := hasProb hr
  refine f42.enter ?_
  unfold f42.w
  have h := ((Loc.start H0).lent r2).lent hr
  refine Wl.box h fun H b h => Wl.getA h rfl ?_
  obtain ⟨_, q⟩ := h.rd (cs := [u1, u2])
  refine Wi.call (fn46 q fun H l => ?_)
  have h := h.to l
  unfold ruC2 at hQ
  cases hp : isProb p with
  | false =>
    simp only [gw]
    have := hQ _ h.le
    simp only [hp] at this
    exact this
  | true =>
    simp only [gw]
    have hn := (PB.of hp).n5
    have h32 := pow5 hn
    refine Wi.fieldAddr (Wl.get h rfl (Wl.len h (Wi.convN (by omega) (Wi.shl1 (by omega) (Wi.sub (i64_pow hn) (Wi.call (fn65 ?_)))))))
    show W.un .not (.bool (setOk p.2.length s)) _ _
    cases hs : setOk p.2.length s with
    | false =>
      simp only [gw]
      have := hQ _ h.le
      simp only [hp, hs] at this
      exact this
    | true =>
    simp only [gw]
    refine Wi.call (fn65 ?_)
    have := hQ _ h.le
    cases hru : inR 0 3 rule with
    | false =>
      simp only [gw]
      simp only [hp, hs, hru] at this
      exact this
    | true =>
      simp only [gw]
      simp only [hp, hs, hru] at this
      exact this

def sbRes (p : Prob) (s rule : Int) : Int × Int :=
  if ruC2 p s rule = 0 then (if det p.2.length (mAt (colL p.2.length p.1 s.toNat)) = 0 then (0, 5) else if exV (ptOf p.2.length p s.toNat) rule = 0 then (0, 4) else ((stp p.2.length p rule s.toNat : Nat), 0)) else (0, ruC2 p s rule)



/-- The sets of a run, and how it ends. -/
noncomputable def rnRes (p : Prob) (s rule : Int) : List Int × Int × Int :=
  if ruC2 p s rule = 0 then (setsL ((List.range ((runOf p.2.length p rule s.toNat).1 + 1)).map (ss p.2.length p rule s.toNat)), (runOf p.2.length p rule s.toNat).2, 0) else ([], 0, ruC2 p s rule)

theorem rnRes_run {p : Prob} {k j : Nat} {rule e : Int} (h : ruC2 p (k : Int) rule = 0) (hr : RunEnd p.2.length p rule k j e) : rnRes p (k : Int) rule = (setsL ((List.range (j + 1)).map (ss p.2.length p rule k)), e, 0) := by
  unfold rnRes
  rw [if_pos h, Int.toNat_natCast, runOf_eq hr]

theorem fn36 {H0 : Heap} {Q : Post} {cs : List Value} {p : Prob} {s rule : Int} (hr : Has RProblem H0 cs p) (hQ : ∀ H' u, Fresh RS H0 [u] (rnRes p s rule).1 H' → Q (.tuple #[u, .int .i64 (rnRes p s rule).2.1, .int .i64 (rnRes p s rule).2.2]) H') : Runs Tryz.prog 36 #[.agg cs.toArray, .int .i64 s, .int .i64 rule] H0 Q := by
  have hlen := hr.len
  have h := (Loc.start H0).lent hr
  refine f36.enter (Wl.box h fun H b h => Wl.getA h hlen (Wi.call (fnU69 (h.rd (cs := cs)) fun H l => ?_)))
  have h := h.to l
  refine Wi.neqC (fun hne => Wi.tru ?_) fun he => Wi.fls ?_
  · have := hQ H (.slice none 0 0)
    unfold rnRes at this
    rw [if_neg hne] at this
    exact this (fresh_nil h.le)
  obtain ⟨hp, hs, hru⟩ := ruC2_eq he
  obtain ⟨k, rfl, hk⟩ := setOk_ex hs
  refine Wl.getA h hlen (Wi.call (fn70 (h.rd (cs := cs)) (PB.of hp) hk hru fun j e hre H u f => ?_))
  have h := h.add f
  simp only [gw]
  have := hQ H u
  rw [rnRes_run he hre] at this
  exact this (h.ret (i := 0) rfl)


/-- How many of the first sets' runs end so. -/
noncomputable def endTo (p : Prob) (rule : Int) (e : Int) (x : Nat) : Nat := ((List.range x).filter fun s => decide ((runOf p.2.length p rule s).2 = e)).length

theorem endTo_in {p : Prob} {rule e : Int} {x : Nat} (h : (runOf p.2.length p rule x).2 = e) : endTo p rule e (x + 1) = endTo p rule e x + 1 := by
  unfold endTo
  rw [List.range_succ, List.filter_append, List.length_append]
  simp [h]
theorem endTo_out {p : Prob} {rule e : Int} {x : Nat} (h : (runOf p.2.length p rule x).2 ≠ e) : endTo p rule e (x + 1) = endTo p rule e x := by
  unfold endTo
  rw [List.range_succ, List.filter_append, List.length_append]
  simp [h]
theorem endTo_le (p : Prob) (rule e : Int) (x : Nat) : endTo p rule e x ≤ x := by
  unfold endTo
  have := List.length_filter_le (fun s => decide ((runOf p.2.length p rule s).2 = e)) (List.range x)
  simpa using this

noncomputable def endL (p : Prob) (rule : Int) (x : Nat) : List Int := [((endTo p rule 0 x : Nat) : Int), ((endTo p rule 1 x : Nat) : Int), ((endTo p rule 2 x : Nat) : Int)]

theorem cls_end {n : Nat} {p : Prob} {rule e : Int} {s k : Nat} (h : cls n p rule s k = some e) : e = 0 ∨ e = 1 ∨ e = 2 := by
  unfold cls at h
  split at h
  · cases h; exact .inr (.inl rfl)
  · split at h
    · cases h; exact .inr (.inr rfl)
    · split at h
      · cases h; exact .inl rfl
      · cases h

theorem endL_step {p : Prob} {rule e : Int} {x : Nat} (h : (runOf p.2.length p rule x).2 = e) (he : e = 0 ∨ e = 1 ∨ e = 2) : ∃ k : Nat, e = (k : Int) ∧ k < 3 ∧ (endL p rule x).set k ((endL p rule x).getD k 0 + 1) = endL p rule (x + 1) := by
  have z : ∀ c : Int, c ≠ e → endTo p rule c (x + 1) = endTo p rule c x := fun c hc => endTo_out (by rw [h]; exact fun g => hc g.symm)
  have o := endTo_in h
  rcases he with rfl | rfl | rfl
  · refine ⟨0, rfl, by decide, ?_⟩
    unfold endL
    rw [o, z 1 (by decide), z 2 (by decide)]
    simp
  · refine ⟨1, rfl, by decide, ?_⟩
    unfold endL
    rw [o, z 0 (by decide), z 2 (by decide)]
    simp
  · refine ⟨2, rfl, by decide, ?_⟩
    unfold endL
    rw [o, z 0 (by decide), z 1 (by decide)]
    simp

theorem endL_sum {p : Prob} {rule : Int} {N : Nat} (h : ∀ x, x < N → ∃ k e, RunEnd p.2.length p rule x k e) : endTo p rule 0 N + endTo p rule 1 N + endTo p rule 2 N = N := by
  induction N with
  | zero => rfl
  | succ N ih =>
    obtain ⟨k, e, hr⟩ := h N (by omega)
    have hre : (runOf p.2.length p rule N).2 = e := by rw [runOf_eq hr]
    have := ih fun x hx => h x (by omega)
    have o := endTo_in hre
    rcases cls_end hr.2 with rfl | rfl | rfl
    · rw [o, endTo_out (e := 1) (by rw [hre]; decide), endTo_out (e := 2) (by rw [hre]; decide)]; omega
    · rw [o, endTo_out (e := 0) (by rw [hre]; decide), endTo_out (e := 2) (by rw [hre]; decide)]; omega
    · rw [o, endTo_out (e := 0) (by rw [hre]; decide), endTo_out (e := 1) (by rw [hre]; decide)]; omega

noncomputable def ceRes (p : Prob) (rule : Int) : List Int × Int := if ruC p rule = 0 then (endL p rule (2 ^ p.2.length), 0) else ([], ruC p rule)



end Go.Proofs.YthfcodelpebjcaaGreat
