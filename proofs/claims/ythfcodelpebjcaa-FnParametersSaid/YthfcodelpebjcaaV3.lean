/- Contracts of the tests of sets. No condition. -/
import Derived.Test.YthfcodelpebjcaaV0
import Derived.Test.YthfcodelpebjcaaB1
import Derived.Test.YthfcodelpebjcaaB2
import Derived.Test.YthfcodelpebjcaaB4
namespace Go.Proofs.Ythfcodelpebjcaa
open Go.Ab

/- loop.example/g01343/impl.isSet -/
def f55.w (Q : Post) (s_0 : Value) (n_1 : Value) (H : Heap) : Prop :=
  W.bin .shl (.int .i64 1) n_1 H fun v1 H =>
  W.bin .sub v1 (.int .i64 1) H fun v2 H =>
  W.call Try.prog (.func (.func 69) #[] #[]) #[s_0, (.int .i64 0), v2] H fun v3 H =>
  Q v3 H
theorem f55.enter {Q : Post} {s_0 : Value} {n_1 : Value} {H : Heap} (h : f55.w Q s_0 n_1 H) : Runs Try.prog 55 #[s_0, n_1] H Q :=
  fn_enter (ann := []) (by kernel_rfl) Try.func55 rfl (by kernel_rfl) h (by kernel_rfl)

/- loop.example/g01343/impl.setCode -/
def f66.w (Q : Post) (p_0 : Value) (s_1 : Value) (H : Heap) : Prop :=
  W.box p_0 27 H fun v1 H =>
  W.getN 2 v1 H fun v2 H =>
  W.call Try.prog (.func (.func 47) #[] #[]) #[v2] H fun v3 H =>
  W.un .not v3 H fun v4 H =>
  W.cond v4 H
  (fun H => Q (.int .i64 1) H)
  (fun H => W.fieldAddr 1 v1 H fun v5 H =>
   W.get v5 H fun v6 H =>
   W.len v6 H fun v7 H =>
   W.call Try.prog (.func (.func 55) #[] #[]) #[s_1, v7] H fun v8 H =>
   W.un .not v8 H fun v9 H =>
   W.cond v9 H
   (fun H => Q (.int .i64 2) H)
   (fun H => Q (.int .i64 0) H))
theorem f66.enter {Q : Post} {p_0 : Value} {s_1 : Value} {H : Heap} (h : f66.w Q p_0 s_1 H) : Runs Try.prog 66 #[p_0, s_1] H Q :=
  fn_enter (ann := []) (by kernel_rfl) Try.func66 rfl (by kernel_rfl) h (by kernel_rfl)

/- loop.example/g01343/spec.l08Code -/
def f35.w (Q : Post) (p_0 : Value) (s_1 : Value) (rule_2 : Value) (H : Heap) : Prop :=
  W.box p_0 27 H fun v1 H =>
  W.getN 2 v1 H fun v2 H =>
  W.call Try.prog (.func (.func 71) #[] #[]) #[v2] H fun v3 H =>
  W.un .not v3 H fun v4 H =>
  W.cond v4 H
  (fun H => Q (.int .i64 1) H)
  (fun H => W.fieldAddr 1 v1 H fun v5 H =>
   W.get v5 H fun v6 H =>
   W.len v6 H fun v7 H =>
   W.conv .u64 v7 H fun v8 H =>
   W.bin .shl (.int .i64 1) v8 H fun v9 H =>
   W.bin .sub v9 (.int .i64 1) H fun v10 H =>
   W.call Try.prog (.func (.func 59) #[] #[]) #[s_1, (.int .i64 0), v10] H fun v11 H =>
   W.un .not v11 H fun v12 H =>
   W.guarded v12 false (fun H k => k rule_2 H) H fun v13 H =>
   W.guarded v12 false (fun H k => W.call Try.prog (.func (.func 59) #[] #[]) #[v13, (.int .i64 0), (.int .i64 3)] H k) H fun v14 H =>
   W.guarded v12 false (fun H k => W.un .not v14 H k) H fun v15 H =>
   W.pick v12 (.bool true) v15 H fun v16 H =>
   W.cond v16 H
   (fun H => Q (.int .i64 2) H)
   (fun H => Q (.int .i64 0) H))
theorem f35.enter {Q : Post} {p_0 : Value} {s_1 : Value} {rule_2 : Value} {H : Heap} (h : f35.w Q p_0 s_1 rule_2 H) : Runs Try.prog 35 #[p_0, s_1, rule_2] H Q :=
  fn_enter (ann := []) (by kernel_rfl) Try.func35 rfl (by kernel_rfl) h (by kernel_rfl)


abbrev setOk (n : Nat) (s : Int) : Bool := inR 0 (((2 ^ n : Nat) : Int) - 1) s

theorem setOk_nat {n : Nat} {s : Int} (h : setOk n s = true) : s = (s.toNat : Nat) ∧ s.toNat < 2 ^ n := by
  have := inR_iff.1 h
  omega

theorem pow5 {n : Nat} (h : n ≤ 5) : 2 ^ n ≤ 32 := Nat.pow_le_pow_right (n := 2) (j := 5) (by decide) h

theorem i64_pow {n : Nat} (h : n ≤ 5) : I64 (((2 ^ n : Nat) : Int) - 1) := by
  have := pow5 h
  generalize 2 ^ n = q at *
  unfold I64
  omega

theorem fn55 {H0 : Heap} {Q : Post} {s : Int} {n : Nat} (hn : n ≤ 5) (hQ : Q (.bool (setOk n s)) H0) : Runs Try.prog 55 #[.int .i64 s, .int .i64 (n : Nat)] H0 Q := by
  have := pow5 hn
  exact f55.enter (Wi.shl1 (by omega) (Wi.sub (i64_pow hn) (Wi.call (fn69 hQ))))

def setC (p : Prob) (s : Int) : Int := if isProb p = true then (if setOk p.2.length s = true then 0 else 2) else 1

theorem fn66 {H0 : Heap} {Q : Post} {cs : List Value} {p : Prob} {s : Int} (hr : Has RProblem H0 cs p) (hQ : ∀ H', H0.Le H' → Q (.int .i64 (setC p s)) H') : Runs Try.prog 66 #[.agg cs.toArray, .int .i64 s] H0 Q := by
  obtain ⟨u1, u2, rfl, r1, r2⟩ := hasProb hr
  refine f66.enter ?_
  unfold f66.w
  have h := ((Loc.start H0).lent r2).lent hr
  refine Wl.box h fun H b h => Wl.getA h rfl ?_
  obtain ⟨_, q⟩ := h.rd (cs := [u1, u2])
  refine Wi.call (fn47 q fun H l => ?_)
  have h := h.to l
  unfold setC at hQ
  cases hp : isProb p with
  | false =>
    simp only [gw]
    have := hQ _ h.le
    simp only [hp] at this
    exact this
  | true =>
    simp only [gw]
    have hn := (PB.of hp).n5
    refine Wi.fieldAddr (Wl.get h rfl (Wl.len h (Wi.call (fn55 hn ?_))))
    cases hs : setOk p.2.length s with
    | false =>
      simp only [gw]
      have := hQ _ h.le
      simp only [hp, hs] at this
      exact this
    | true =>
      simp only [gw]
      have := hQ _ h.le
      simp only [hp, hs] at this
      exact this

theorem fn35 {H0 : Heap} {Q : Post} {cs : List Value} {p : Prob} {s : Int} (hr : Has RProblem H0 cs p) (hQ : ∀ H', H0.Le H' → Q (.int .i64 (setC p s)) H') : Runs Try.prog 35 #[.agg cs.toArray, .int .i64 s, .int .i64 0] H0 Q := by
  obtain ⟨u1, u2, rfl, r1, r2⟩ := hasProb hr
  refine f35.enter ?_
  unfold f35.w
  have h := ((Loc.start H0).lent r2).lent hr
  refine Wl.box h fun H b h => Wl.getA h rfl ?_
  obtain ⟨_, q⟩ := h.rd (cs := [u1, u2])
  refine Wi.call (fn71 q fun H l => ?_)
  have h := h.to l
  unfold setC at hQ
  cases hp : isProb p with
  | false =>
    simp only [gw]
    have := hQ _ h.le
    simp only [hp] at this
    exact this
  | true =>
    simp only [gw]
    have hn := (PB.of hp).n5
    have h32 := pow5 hn
    refine Wi.fieldAddr (Wl.get h rfl (Wl.len h (Wi.convN (by omega) (Wi.shl1 (by omega) (Wi.sub (i64_pow hn) (Wi.call (fn59 ?_)))))))
    show W.un .not (.bool (setOk p.2.length s)) _ _
    cases hs : setOk p.2.length s with
    | false =>
      simp only [gw]
      have := hQ _ h.le
      simp only [hp, hs] at this
      exact this
    | true =>
      simp only [gw]
      refine Wi.call (fn59 ?_)
      rw [show inR 0 3 0 = true from rfl]
      simp only [gw]
      have := hQ _ h.le
      simp only [hp, hs] at this
      exact this

end Go.Proofs.Ythfcodelpebjcaa
