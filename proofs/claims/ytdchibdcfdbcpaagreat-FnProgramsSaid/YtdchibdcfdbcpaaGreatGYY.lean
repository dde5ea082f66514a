/- Fractions with a common denominator: each numerator. No condition. -/
import Derived.Test.YtdchibdcfdbcpaaGreatGQQ
import Derived.Test.YtdchibdcfdbcpaaGreatGBB
import Derived.Test.YtdchibdcfdbcpaaGreatGCC
import Derived.Test.YtdchibdcfdbcpaaGreatM1
namespace Go.Proofs.YtdchibdcfdbcpaaGreat
open Go.Ab

theorem com_dvd {xs : List Frac} (h : Frs xs) : ∀ {m i : Nat}, m ≤ xs.length → i < m → (xs.getD i (0, 1)).2 ∣ comTo xs m
  | 0, _, _, h2 => by omega
  | m + 1, i, h1, h2 => by
    have key : ∀ d e : Int, d ∣ d.tdiv (Int.gcd d e) * e ∧ e ∣ d.tdiv (Int.gcd d e) * e := fun d e => by
      rw [Int.tdiv_eq_ediv_of_dvd (Int.gcd_dvd_left d e)]
      refine ⟨?_, Int.dvd_mul_left _ _⟩
      obtain ⟨k, hk⟩ := Int.gcd_dvd_right d e
      obtain ⟨j, hj⟩ := Int.gcd_dvd_left d e
      by_cases hg : (Int.gcd d e : Int) = 0
      · rw [hg, Int.zero_mul] at hk
        rw [hk]; simp
      · have e1 : d / (Int.gcd d e : Int) = j := by
          conv => lhs; lhs; rw [hj]
          rw [Int.mul_ediv_cancel_left _ hg]
        rw [e1]
        refine ⟨k, ?_⟩
        conv => lhs; rw [hk]
        conv => rhs; lhs; rw [hj]
        ac_rfl
    show _ ∣ comStep (comTo xs m) _
    unfold comStep
    by_cases e : i = m
    · subst e; exact (key _ _).2
    · exact Int.dvd_trans (com_dvd h (by omega) (by omega)) (key _ _).1

theorem tog_get {m n : Int} {xs : List Frac} (hf : Frs xs) {l : List Int} {d : Int} (h : tog m n xs = some (l, d)) : l.length = xs.length ∧ 1 ≤ d ∧ ∀ i, i < xs.length → l.getD i 0 * (xs.getD i (0, 1)).2 = (xs.getD i (0, 1)).1 * d := by
  unfold tog at h
  split at h
  · simp only [Option.some.injEq, Prod.mk.injEq] at h
    obtain ⟨rfl, rfl⟩ := h
    refine ⟨by simp, comTo_pos hf (Nat.le_refl _), fun i hi => ?_⟩
    have hd := com_dvd hf (Nat.le_refl _) hi
    rw [show (xs.map (comNum (comTo xs xs.length))).getD i 0 = comNum (comTo xs xs.length) xs[i] by simp [hi]]
    have e : xs.getD i (0, 1) = xs[i] := by simp [hi]
    rw [e] at hd ⊢
    unfold comNum
    rw [Int.tdiv_eq_ediv_of_dvd hd, Int.mul_assoc, Int.ediv_mul_cancel hd]
  · cases h

/-- Fractions by numbers z and a denominator D. -/
theorem tog_num {m n : Int} {xs : List Frac} {z : Nat → Int} {D : Int} {N : Nat} (hD : 0 < D) (hx : xs = (List.range N).map fun i => frac (z i) D) (hf : Frs xs) {l : List Int} {d : Int} (h : tog m n xs = some (l, d)) : l.length = N ∧ 1 ≤ d ∧ ∀ i, i < N → l.getD i 0 * D = z i * d := by
  obtain ⟨h1, h2, h3⟩ := tog_get hf h
  subst hx
  rw [List.length_map, List.length_range] at h1 h3
  refine ⟨h1, h2, fun i hi => ?_⟩
  have g := h3 i hi
  have e : ((List.range N).map fun i => frac (z i) D).getD i (0, 1) = frac (z i) D := by simp [List.getD_eq_getElem?_getD, hi]
  rw [e] at g
  have p := frac_pos (n := z i) (d := D) (by omega)
  have q := frac_mul (n := z i) (d := D) (by omega)
  generalize frac (z i) D = a at *
  refine Int.eq_of_mul_eq_mul_right (show a.2 ≠ 0 by omega) ?_
  rw [show l.getD i 0 * D * a.2 = l.getD i 0 * a.2 * D by ac_rfl, g, show a.1 * d * D = a.1 * D * d by ac_rfl, q]
  ac_rfl

end Go.Proofs.YtdchibdcfdbcpaaGreat
/-! When numbers with a common denominator solve a problem, as plain values; the problem of a program is one. No condition. -/
namespace Go.Proofs.YtdchibdcfdbcpaaGreat
open Go.Ab

/-- The remainder, times the denominator. -/
def restN (P : Prob) (d : Int) (l : List Int) (i : Nat) : Int := P.2.getD i 0 * d + dot (P.1.getD i []) l
def restL (n : Nat) (P : Prob) (d : Int) (l : List Int) : List Int := (List.range n).map (restN P d l)

theorem restL_len (n : Nat) (P : Prob) (d : Int) (l : List Int) : (restL n P d l).length = n := by simp [restL]
theorem restL_at {n : Nat} (P : Prob) (d : Int) (l : List Int) {i : Nat} (h : i < (restL n P d l).length) : (restL n P d l)[i] = restN P d l i := by simp [restL]

theorem PB.row {n : Nat} {P : Prob} (hp : PB n P) : ∀ r ∈ P.1, r.length ≤ 5 ∧ ∀ e ∈ r, e.natAbs ≤ 20 := fun r hr => by
  obtain ⟨i, hi, rfl⟩ := List.mem_iff_getElem.1 hr
  have hl := hp.sq.2 _ hr
  refine ⟨by have := hp.n5; omega, fun e he => ?_⟩
  obtain ⟨k, hk, rfl⟩ := List.mem_iff_getElem.1 he
  rw [show P.1[i][k] = mAt P.1 i k from (mAt_at hi hk).symm]
  exact hp.m i k

theorem rest_bound {n : Nat} {P : Prob} (hp : PB n P) {l : List Int} {d : Int} (hd : d.natAbs ≤ 1000000000) (hl : ∀ e ∈ l, e.natAbs ≤ 1000000000000) (i : Nat) :
    (P.2.getD i 0 * d).natAbs ≤ 100 * 1000000000 ∧ (dot (P.1.getD i []) l).natAbs ≤ 5 * (20 * 1000000000000) ∧ (restN P d l i).natAbs ≤ 200000000000000 := by
  have h1 := mul_abs (getD_abs hp.q i) hd
  have h2 := row_dot hp.row hl i
  exact ⟨h1, h2, by unfold restN; omega⟩

/-- At one place. -/
def okI (w a : Int) : Bool := decide (0 ≤ w) && (decide (0 ≤ a) && !(decide (0 < w) && decide (0 < a)))

def solV (n : Nat) (P : Prob) (l : List Int) (d : Int) : Bool := allN n fun i => okI (restN P d l i) (l.getD i 0)

theorem okI_iff {w a : Int} : okI w a = true ↔ 0 ≤ w ∧ 0 ≤ a ∧ ¬ (0 < w ∧ 0 < a) := by
  simp [okI]
  omega

theorem prgProblem_prob {p : Prg} (h : IsPrg p) : isProb (prgProblem p) = true := by
  obtain ⟨h1, h2, h3⟩ := prgProblem_dims h
  have n1 := h.n1; have nm := h.nm; have dl := h.dl; have al := h.al
  have he : ∀ r ∈ (prgProblem p).1, allUp 20 r = true := fun r hr => by
    rw [allUp_iff]
    intro x hx
    simp only [prgProblem, List.mem_append] at hr
    rcases hr with hr | hr
    · simp only [prgTop, List.mem_map, List.mem_range] at hr
      obtain ⟨i, hi, rfl⟩ := hr
      have hi2 : i < p.1.length := by omega
      rw [getD_row hi2, List.mem_append] at hx
      rcases hx with hx | hx
      · exact (h.d _ (List.getElem_mem hi2)).2 x hx
      · obtain ⟨j, hj, rfl⟩ := List.mem_map.1 hx
        have hj2 : j < p.2.2.1.length := by have := List.mem_range.1 hj; omega
        rw [getD_row hj2]
        have hrow := h.a _ (List.getElem_mem hj2)
        rw [getD_at (by omega)]
        have := hrow.2 _ (List.getElem_mem (show i < p.2.2.1[j].length by omega))
        omega
    · simp only [prgLow, List.mem_map] at hr
      obtain ⟨r, hr, rfl⟩ := hr
      rw [List.mem_append] at hx
      rcases hx with hx | hx
      · exact (h.a r (List.mem_of_mem_take hr)).2 x hx
      · rw [List.eq_of_mem_replicate hx]; omega
  have hq : allUp 100 (prgProblem p).2 = true := by
    rw [allUp_iff]
    intro x hx
    simp only [prgProblem, List.mem_append, neg, List.mem_map] at hx
    rcases hx with hx | ⟨y, hy, rfl⟩
    · exact h.c x hx
    · have := h.b y hy; omega
  unfold isProb isMat
  rw [hq, isSq_iff.2 ⟨rfl, fun r hr => by rw [h3 r hr, h1]⟩, inR_iff.2 ⟨by omega, by omega⟩, List.all_eq_true.2 he, h1, h2]
  simp

theorem prgPB {p : Prg} (h : IsPrg p) : PB (p.2.1.length + p.2.2.2.length) (prgProblem p) := by
  have := PB.of (prgProblem_prob h)
  rwa [(prgProblem_dims h).2.1] at this

def stOf (n : Nat) (P : Prob) : Option (List Int × Int) → Bool × Int
  | none => (false, 3)
  | some (l, d) => (solV n P l d, 0)

noncomputable def stRes (p : Prg) (xs ys : List Frac) : Bool × Int := open Classical in
  if IsPrg p ∧ Frs xs ∧ Frs ys then (if xs.length = p.2.1.length ∧ ys.length = p.2.2.2.length then stOf (p.2.1.length + p.2.2.2.length) (prgProblem p) (tog 1000000000 1000000000000 (xs ++ ys)) else (false, 2)) else (false, 1)

theorem Frs.append {xs ys : List Frac} (h1 : Frs xs) (h2 : Frs ys) : Frs (xs ++ ys) := fun a ha => (List.mem_append.1 ha).elim (h1 a) (h2 a)

end Go.Proofs.YtdchibdcfdbcpaaGreat
