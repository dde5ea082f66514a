/- Contracts of l01Own and slices.Clone. No condition. -/
import Derived.Test.YtbcfknboheghkaaGreatGAA
import Derived.Test.YtbcfknboheghkaaGreatZabG5
import Derived.Test.YtbcfknboheghkaaGreatGQQ
import Derived.Test.YtbcfknboheghkaaGreatGBB
import Derived.Test.YtbcfknboheghkaaGreatZabOrd
import Derived.Test.YtbcfknboheghkaaGreatZabG9
import Derived.Test.YtbcfknboheghkaaGreatZabG8
namespace Go.Proofs.YtbcfknboheghkaaGreat
open Go.Ab

/- slices.Clone[[]int64,int64] -/
end Go.Proofs.YtbcfknboheghkaaGreat
/-! The contract of copyRows. No condition. -/
namespace Go.Proofs.YtbcfknboheghkaaGreat
open Go.Ab

/- loop.example/g01343/impl.copyRows -/
/-- Rows that may be copied. -/
def okRows (m : List (List Int)) : Prop := m.length ≤ 1048576 ∧ ∀ r ∈ m, r.length ≤ 1048576

end Go.Proofs.YtbcfknboheghkaaGreat

/-! The problem of a program, as a plain value. No condition. -/
namespace Go.Proofs.YtbcfknboheghkaaGreat
open Go.Ab

def neg (xs : List Int) : List Int := xs.map (fun x => -x)
/-- The first rows of a program's problem. -/
def prgTop (p : Prg) (i : Nat) : List (List Int) := (List.range i).map fun i => p.1.getD i [] ++ (List.range p.2.2.2.length).map fun j => -((p.2.2.1.getD j []).getD i 0)
def prgLow (p : Prg) (j : Nat) : List (List Int) := (p.2.2.1.take j).map fun r => r ++ List.replicate p.2.2.2.length 0
def prgProblem (p : Prg) : Prob := (prgTop p p.2.1.length ++ prgLow p p.2.2.1.length, p.2.1 ++ neg p.2.2.2)

noncomputable def ppRes (p : Prg) : Prob × Int := open Classical in if IsPrg p then (prgProblem p, 0) else (([], []), 1)

end Go.Proofs.YtbcfknboheghkaaGreat

/-! Contracts of the program's IsMatrix, IsProblem and isSet. No condition. -/
namespace Go.Proofs.YtbcfknboheghkaaGreat
open Go.Ab

/- loop.example/g01343/impl.IsMatrix -/
def f146.w (Q : Post) (m_0 : Value) (H : Heap) : Prop :=
  W.len m_0 H fun v1 H =>
  W.call Tryz.prog (.func (.func 49) #[] #[]) #[v1, (.int .i64 1), (.int .i64 5)] H fun v2 H =>
  W.guarded v2 true (fun H k => k m_0 H) H fun v3 H =>
  W.guarded v2 true (fun H k => k m_0 H) H fun v4 H =>
  W.guarded v2 true (fun H k => W.len v4 H k) H fun v5 H =>
  W.guarded v2 true (fun H k => W.call Tryz.prog (.func (.func 161) #[] #[]) #[v3, v5] H k) H fun v6 H =>
  W.pick v2 v6 (.bool false) H fun v7 H =>
  W.guarded v7 true (fun H k => k m_0 H) H fun v8 H =>
  W.guarded v7 true (fun H k => W.call Tryz.prog (.func (.func 131) #[] #[]) #[v8, (.func (.func 162) #[] #[])] H k) H fun v9 H =>
  W.guarded v7 true (fun H k => W.un .not v9 H k) H fun v10 H =>
  W.pick v7 v10 (.bool false) H fun v11 H =>
  Q v11 H
theorem f146.enter {Q : Post} {m_0 : Value} {H : Heap} (h : f146.w Q m_0 H) : Runs Tryz.prog 146 #[m_0] H Q :=
  fn_enter (ann := []) (by kernel_rfl) Tryz.func146 rfl (by kernel_rfl) h (by kernel_rfl)

/- loop.example/g01343/impl.IsMatrix$1 -/
def f162.w (Q : Post) (row_0 : Value) (H : Heap) : Prop :=
  W.call Tryz.prog (.func (.func 147) #[] #[]) #[row_0, (.int .i64 20)] H fun v1 H =>
  W.un .not v1 H fun v2 H =>
  Q v2 H
theorem f162.enter {Q : Post} {row_0 : Value} {H : Heap} (h : f162.w Q row_0 H) : Runs Tryz.prog 162 #[row_0] H Q :=
  fn_enter (ann := []) (by kernel_rfl) Tryz.func162 rfl (by kernel_rfl) h (by kernel_rfl)

/- loop.example/g01343/impl.IsProblem -/
def f122.w (Q : Post) (p_0 : Value) (H : Heap) : Prop :=
  W.box p_0 43 H fun v1 H =>
  W.fieldAddr 0 v1 H fun v2 H =>
  W.get v2 H fun v3 H =>
  W.call Tryz.prog (.func (.func 146) #[] #[]) #[v3] H fun v4 H =>
  W.guarded v4 true (fun H k => W.fieldAddr 1 v1 H k) H fun v5 H =>
  W.guarded v4 true (fun H k => W.get v5 H k) H fun v6 H =>
  W.guarded v4 true (fun H k => W.len v6 H k) H fun v7 H =>
  W.guarded v4 true (fun H k => W.fieldAddr 0 v1 H k) H fun v8 H =>
  W.guarded v4 true (fun H k => W.get v8 H k) H fun v9 H =>
  W.guarded v4 true (fun H k => W.len v9 H k) H fun v10 H =>
  W.guarded v4 true (fun H k => W.bin .eql v7 v10 H k) H fun v11 H =>
  W.pick v4 v11 (.bool false) H fun v12 H =>
  W.guarded v12 true (fun H k => W.fieldAddr 1 v1 H k) H fun v13 H =>
  W.guarded v12 true (fun H k => W.get v13 H k) H fun v14 H =>
  W.guarded v12 true (fun H k => W.call Tryz.prog (.func (.func 147) #[] #[]) #[v14, (.int .i64 100)] H k) H fun v15 H =>
  W.pick v12 v15 (.bool false) H fun v16 H =>
  Q v16 H
theorem f122.enter {Q : Post} {p_0 : Value} {H : Heap} (h : f122.w Q p_0 H) : Runs Tryz.prog 122 #[p_0] H Q :=
  fn_enter (ann := []) (by kernel_rfl) Tryz.func122 rfl (by kernel_rfl) h (by kernel_rfl)


/-- A matrix: square, of 1 to 5 rows, numbers of at most 20. -/
def isMat (m : List (List Int)) : Bool := (inR 1 5 m.length && isSq m.length m) && m.all (allUp 20)

theorem fn146 {H : Heap} {Q : Post} {bs : List Nat} {v : Value} {m : List (List Int)} (hr : RSS.rel H bs [v] m) (h : ∀ H', H.Le H' → Q (.bool (isMat m)) H') : Runs Tryz.prog 146 #[v] H Q := by
  refine f146.enter ?_
  unfold f146.w
  obtain ⟨p1, e1, g1⟩ := Rd.slice_val hr
  simp only [List.cons.injEq, and_true] at g1
  rw [g1]
  refine Wi.len (Wi.call (fn49 ?_))
  rw [← g1]
  unfold isMat at h
  have tail : ∀ (b : Bool) (H1 : Heap), H.Le H1 → (∀ H', H1.Le H' → Q (.bool (b && m.all (allUp 20))) H') →
      W.guarded (.bool b) true (fun H k => k v H) H1 fun v8 H => W.guarded (.bool b) true (fun H k => W.call Tryz.prog (.func (.func 131) #[] #[]) #[v8, (.func (.func 162) #[] #[])] H k) H fun v9 H =>
        W.guarded (.bool b) true (fun H k => W.un .not v9 H k) H fun v10 H => W.pick (.bool b) v10 (.bool false) H fun v11 H => Q v11 H := by
    intro b H1 l1 h
    cases b with
    | false => exact Wi.gF (Wi.gF (Wi.gF (Wi.pickF (h H1 (.refl _)))))
    | true =>
      refine Wi.gT (Wi.gT (Wi.call (contains131 _ _ _ _ _ (fun r => !allUp 20 r) _ (Rd.le _ hr l1) ?_ fun H2 l2 => Wi.gT (Wi.not (Wi.pickT ?_)))))
      · intro H' bs u x K l hr hK
        exact Wi.call (f162.enter (Wi.call (fn147 (by unfold I64; omega) hr fun H2 l2 => Wi.not (hK H2 l2))))
      · have e : (!m.any fun r => !allUp 20 r) = m.all (allUp 20) := by rw [← List.all_eq_not_any_not]
        rw [e]
        exact h H2 l2
  cases hb : inR 1 5 m.length with
  | false =>
    rw [hb] at h
    exact Wi.gF (Wi.gF (Wi.gF (Wi.gF (Wi.pickF (tail false H (.refl _) h)))))
  | true =>
    rw [hb, Bool.true_and] at h
    refine Wi.gT (Wi.gT (Wi.gT ?_))
    rw [g1]
    refine Wi.len ?_
    rw [← g1]
    refine Wi.gT (Wi.call (fn161 hr fun H1 l1 => Wi.pickT (tail _ H1 l1 fun H2 l2 => h H2 (l1.trans l2))))


/-- A problem. -/
def isProb (p : Prob) : Bool := (isMat p.1 && decide (p.2.length = p.1.length)) && allUp 100 p.2

theorem fn122 {H : Heap} {Q : Post} {bs : List Nat} {cs : List Value} {p : Prob} (hr : RProblem.rel H bs cs p) (h : ∀ H', H.Le H' → Q (.bool (isProb p)) H') : Runs Tryz.prog 122 #[.agg cs.toArray] H Q := by
  obtain ⟨u1, u2, b1, b2, rfl, _, hr1, hr2⟩ := prob_cells hr
  refine f122.enter ?_
  unfold f122.w
  obtain ⟨p1, e1, g1⟩ := Rd.slice_val hr1
  obtain ⟨p2, e2, g2⟩ := Rd.slice_val hr2
  simp only [List.cons.injEq, and_true] at g1 g2
  refine Wi.box fun H1 l1 n1 k1 => Wi.fieldAddr0 (Wi.get k1 rfl (Wi.call (fn146 (Rd.le _ hr1 l1) fun H2 l2 => ?_)))
  have k2 := l2.at k1 (by omega)
  unfold isProb at h
  have l12 := l1.trans l2
  cases hb : isMat p.1 with
  | false =>
    rw [hb] at h
    exact Wi.gF (Wi.gF (Wi.gF (Wi.gF (Wi.gF (Wi.gF (Wi.gF (Wi.pickF (Wi.gF (Wi.gF (Wi.gF (Wi.pickF (h H2 l12))))))))))))
  | true =>
    rw [hb, Bool.true_and] at h
    refine Wi.gT (Wi.fieldAddr0 (Wi.gT (Wi.get k2 rfl (Wi.gT ?_))))
    rw [g2]
    refine Wi.len (Wi.gT (Wi.fieldAddr0 (Wi.gT (Wi.get k2 rfl (Wi.gT ?_)))))
    rw [g1]
    refine Wi.len (Wi.gT (Wi.eql (Wi.pickT ?_)))
    rw [int_beq]
    cases hl : decide (p.2.length = p.1.length) with
    | false =>
      rw [hl] at h
      exact Wi.gF (Wi.gF (Wi.gF (Wi.pickF (h H2 l12))))
    | true =>
      rw [hl, Bool.true_and] at h
      exact Wi.gT (Wi.fieldAddr0 (Wi.gT (Wi.get k2 rfl (Wi.gT (Wi.call (fn147 (by unfold I64; omega) (Rd.le _ hr2 l12) fun H3 l3 => Wi.pickT (h H3 (l12.trans l3))))))))

end Go.Proofs.YtbcfknboheghkaaGreat

/-! Contracts of the reference's l01In, l01Matrix and l01Is. No condition. -/
namespace Go.Proofs.YtbcfknboheghkaaGreat
open Go.Ab



theorem isMat_eq (m : List (List Int)) : isMat m = (decide (1 ≤ m.length) && decide (m.length ≤ 5) && m.all (fun r => decide (r.length = m.length) && r.all (inR (-20) 20))) := by
  unfold isMat isSq inR allUp inR
  have : (m.all fun r => decide (r.length = m.length) && r.all fun n => decide (-20 ≤ n) && decide (n ≤ 20)) = (m.all (fun r => decide (r.length = m.length)) && m.all fun xs => xs.all fun n => decide (-20 ≤ n) && decide (n ≤ 20)) := by
    induction m with
    | nil => rfl
    | cons x xs ih =>
      rw [Bool.eq_iff_iff]
      simp only [List.all_eq_true, Bool.and_eq_true, decide_eq_true_eq]
      constructor
      · intro h; exact ⟨fun r hr => (h r hr).1, fun r hr n hn => (h r hr).2 n hn⟩
      · intro h r hr; exact ⟨h.1 r hr, fun n hn => h.2 r hr n hn⟩
  rw [this]
  simp
  have e : decide (1 ≤ (m.length : Int)) = decide (1 ≤ m.length) := by
    by_cases h : 1 ≤ m.length <;> simp <;> omega
  have e2 : decide ((m.length : Int) ≤ 5) = decide (m.length ≤ 5) := by
    by_cases h : m.length ≤ 5 <;> simp <;> omega
  rw [e, e2]
  simp [Bool.and_assoc]



end Go.Proofs.YtbcfknboheghkaaGreat

/-! What RenumberProblem comes to; problems' limits. No condition. -/
namespace Go.Proofs.YtbcfknboheghkaaGreat
open Go.Ab

theorem isProb_rows {p : Prob} (h : isProb p = true) : okRows p.1 ∧ 0 < p.1.length ∧ p.1.length ≤ 5 ∧ p.2.length = p.1.length ∧ (∀ r ∈ p.1, r.length = p.1.length ∧ ∀ x ∈ r, -20 ≤ x ∧ x ≤ 20) ∧ ∀ x ∈ p.2, -100 ≤ x ∧ x ≤ 100 := by
  unfold isProb at h
  rw [isMat_eq] at h
  simp only [Bool.and_eq_true, decide_eq_true_eq, List.all_eq_true, inR, allUp] at h
  obtain ⟨⟨⟨⟨h1, h2⟩, h3⟩, h4⟩, h5⟩ := h
  refine ⟨⟨by omega, fun r hr => ?_⟩, by omega, h2, h4, fun r hr => ?_, fun x hx => by have := h5 x hx; omega⟩
  · have := (h3 r hr).1
    omega
  · exact ⟨(h3 r hr).1, fun x hx => by have := (h3 r hr).2 x hx; omega⟩


/-- The first x numbers of a row put to their new places. -/
def rowPut (l src dst : List Int) (x : Nat) : List Int := (List.range x).foldl (fun d k => d.set (l.getD k 0).toNat (src.getD k 0)) dst

/-- The first x rows put to their new places. -/
def probPut (p : Prob) (l : List Int) (x : Nat) : Prob :=
  (List.range x).foldl (fun o i => (o.1.set (l.getD i 0).toNat (rowPut l (p.1.getD i []) (o.1.getD (l.getD i 0).toNat []) p.1.length), o.2.set (l.getD i 0).toNat (p.2.getD i 0))) p

def renRes (p : Prob) (l : List Int) : Prob × Int :=
  if isProb p then (if isOrd p.2.length l then (probPut p l p.1.length, 0) else (([], []), 2)) else (([], []), 1)


end Go.Proofs.YtbcfknboheghkaaGreat

/-! What a problem's numbers are. No condition. -/
namespace Go.Proofs.YtbcfknboheghkaaGreat
open Go.Ab

/-- What a problem's numbers are, n of them. -/
structure PB (n : Nat) (p : Prob) : Prop where
  sq : Sq n p.1
  ql : p.2.length = n
  n0 : 0 < n
  n5 : n ≤ 5
  m : ∀ r c, (mAt p.1 r c).natAbs ≤ 20
  q : ∀ e ∈ p.2, e.natAbs ≤ 100

theorem PB.of {p : Prob} (h : isProb p = true) : PB p.2.length p := by
  obtain ⟨_, h1, h2, h3, h4, h5⟩ := isProb_rows h
  refine ⟨⟨h3.symm, fun r hr => by rw [h3]; exact (h4 r hr).1⟩, rfl, by omega, by omega, fun r c => ?_, fun e he => by have := h5 e he; omega⟩
  simp only [mAt, List.getD_eq_getElem?_getD]
  cases e1 : p.1[r]? with
  | none => simp
  | some row =>
    simp only [Option.getD_some]
    cases e2 : row[c]? with
    | none => simp
    | some x =>
      have := (h4 row (List.mem_of_getElem? e1)).2 x (List.mem_of_getElem? e2)
      simp only [Option.getD_some]
      omega

end Go.Proofs.YtbcfknboheghkaaGreat

/-! When numbers with a common denominator solve a problem, as plain values; the problem of a program is one. No condition. -/
namespace Go.Proofs.YtbcfknboheghkaaGreat
open Go.Ab

/-- The remainder, times the denominator. -/
def restN (P : Prob) (d : Int) (l : List Int) (i : Nat) : Int := P.2.getD i 0 * d + dot (P.1.getD i []) l
def restL (n : Nat) (P : Prob) (d : Int) (l : List Int) : List Int := (List.range n).map (restN P d l)

theorem restL_len (n : Nat) (P : Prob) (d : Int) (l : List Int) : (restL n P d l).length = n := by simp [restL]
theorem restL_at {n : Nat} (P : Prob) (d : Int) (l : List Int) {i : Nat} (h : i < (restL n P d l).length) : (restL n P d l)[i] = restN P d l i := by simp [restL]

theorem PB.row {n : Nat} {P : Prob} (hp : PB n P) : ∀ r ∈ P.1, r.length ≤ 5 ∧ ∀ e ∈ r, e.natAbs ≤ 20 := fun r hr => by
  obtain ⟨i, hi, rfl⟩ := List.mem_iff_getElem.1 hr
  have hl := hp.sq.2 _ hr
  refine ⟨by have := hp.n5; omega, fun e he => ?_⟩
  obtain ⟨k, hk, rfl⟩ := List.mem_iff_getElem.1 he
  rw [show P.1[i][k] = mAt P.1 i k from (mAt_at hi hk).symm]
  exact hp.m i k

theorem rest_bound {n : Nat} {P : Prob} (hp : PB n P) {l : List Int} {d : Int} (hd : d.natAbs ≤ 1000000000) (hl : ∀ e ∈ l, e.natAbs ≤ 1000000000000) (i : Nat) :
    (P.2.getD i 0 * d).natAbs ≤ 100 * 1000000000 ∧ (dot (P.1.getD i []) l).natAbs ≤ 5 * (20 * 1000000000000) ∧ (restN P d l i).natAbs ≤ 200000000000000 := by
  have h1 := mul_abs (getD_abs hp.q i) hd
  have h2 := row_dot hp.row hl i
  exact ⟨h1, h2, by unfold restN; omega⟩

/-- At one place. -/
def okI (w a : Int) : Bool := decide (0 ≤ w) && (decide (0 ≤ a) && !(decide (0 < w) && decide (0 < a)))

def solV (n : Nat) (P : Prob) (l : List Int) (d : Int) : Bool := allN n fun i => okI (restN P d l i) (l.getD i 0)

theorem okI_iff {w a : Int} : okI w a = true ↔ 0 ≤ w ∧ 0 ≤ a ∧ ¬ (0 < w ∧ 0 < a) := by
  simp [okI]
  omega

def stOf (n : Nat) (P : Prob) : Option (List Int × Int) → Bool × Int
  | none => (false, 3)
  | some (l, d) => (solV n P l d, 0)

noncomputable def stRes (p : Prg) (xs ys : List Frac) : Bool × Int := open Classical in
  if IsPrg p ∧ Frs xs ∧ Frs ys then (if xs.length = p.2.1.length ∧ ys.length = p.2.2.2.length then stOf (p.2.1.length + p.2.2.2.length) (prgProblem p) (tog 1000000000 1000000000000 (xs ++ ys)) else (false, 2)) else (false, 1)

theorem Frs.append {xs ys : List Frac} (h1 : Frs xs) (h2 : Frs ys) : Frs (xs ++ ys) := fun a ha => (List.mem_append.1 ha).elim (h1 a) (h2 a)

end Go.Proofs.YtbcfknboheghkaaGreat

/-! Contracts of slices.Grow and slices.Concat, numbers. No condition. -/
namespace Go.Proofs.YtbcfknboheghkaaGreat
open Go.Ab




end Go.Proofs.YtbcfknboheghkaaGreat

/-! Numbers times -1. No condition. -/
namespace Go.Proofs.YtbcfknboheghkaaGreat
open Go.Ab




end Go.Proofs.YtbcfknboheghkaaGreat

/-! Contracts of the program's problem and ProgramProblem. No condition. -/
namespace Go.Proofs.YtbcfknboheghkaaGreat
open Go.Ab





end Go.Proofs.YtbcfknboheghkaaGreat

/-! The contract of the program's IsPlace. No condition. -/
namespace Go.Proofs.YtbcfknboheghkaaGreat
open Go.Ab



theorem tog_facts {m n : Int} {xs : List Frac} (hf : Frs xs) (hm : 1 ≤ m) {l : List Int} {d : Int} (h : tog m n xs = some (l, d)) : l.length = xs.length ∧ 1 ≤ d ∧ d ≤ m ∧ ∀ a ∈ l, -n ≤ a ∧ a ≤ n := by
  unfold tog at h
  split at h
  · rename_i g
    simp only [Option.some.injEq, Prod.mk.injEq] at h
    obtain ⟨rfl, rfl⟩ := h
    refine ⟨by simp, comTo_pos hf (Nat.le_refl _), ?_, fun a ha => ?_⟩
    · cases hx : xs.length with
      | zero => simp [comTo]; omega
      | succ k =>
        have := g.1 k (by omega)
        exact this
    · obtain ⟨b, hb, rfl⟩ := List.mem_map.1 ha
      exact g.2 b hb
  · cases h

/-- The numbers make a place. -/
def plOK (p : Prg) (l : List Int) (d : Int) : Prop := (∀ j, j < p.2.2.1.length → p.2.2.2.getD j 0 * d ≤ dot (p.2.2.1.getD j []) l) ∧ ∀ a ∈ l, 0 ≤ a

noncomputable def plRes (p : Prg) (xs : List Frac) : Bool × Int := open Classical in
  if IsPrg p ∧ Frs xs then (if xs.length = p.2.1.length then (match tog 1000000000 1000000000000 xs with | none => (false, 3) | some (l, d) => (decide (plOK p l d), 0)) else (false, 2)) else (false, 1)

end Go.Proofs.YtbcfknboheghkaaGreat
