/- The laws' helpers for programs. No condition. -/
import Derived.Test.YtgdiebnokgnniaaGreatDoorA1
import Derived.Test.YtgdiebnokgnniaaGreatDoorZabG5
import Derived.Test.YtgdiebnokgnniaaGreatDoorGAA
import Derived.Test.YtgdiebnokgnniaaGreatDoorGAB
import Derived.Test.YtgdiebnokgnniaaGreatDoorGVV
import Derived.Test.YtgdiebnokgnniaaGreatDoorGQQ
namespace Go.Proofs.YtgdiebnokgnniaaGreatDoor
open Go.Ab



abbrev Prg := List (List Int) × List Int × List (List Int) × List Int
abbrev RPrg : Rd Prg := Rd.pair RSS (Rd.pair RS (Rd.pair RSS RS))

abbrev wPrg := szp wSS (szp (List.length (α := Int)) (szp wSS (List.length (α := Int))))

end Go.Proofs.YtgdiebnokgnniaaGreatDoor
/-! Contracts of slices.Grow and slices.Concat, rows. No condition. -/
namespace Go.Proofs.YtgdiebnokgnniaaGreatDoor
open Go.Ab




end Go.Proofs.YtgdiebnokgnniaaGreatDoor

/-! The contract of the program's allPlaces. No condition. -/
namespace Go.Proofs.YtgdiebnokgnniaaGreatDoor
open Go.Ab



/-- A function value of two numbers that tells whether something holds. -/
def Pred2F (fv : Value) (H : Heap) (n : Nat) (p : Nat → Nat → Bool) : Prop :=
  ∀ (H' : Heap) (i k : Nat) (K : Post), H.Le H' → i < n → k < n → (∀ H2, H'.Le H2 → K (.bool (p i k)) H2) → W.call Tryz.prog fv #[.int .i64 i, .int .i64 k] H' K


end Go.Proofs.YtgdiebnokgnniaaGreatDoor

/-! What a program is; the contract of the program's IsProgram. No condition. -/
namespace Go.Proofs.YtgdiebnokgnniaaGreatDoor
open Go.Ab



/-- A quadratic program. -/
structure IsPrg (p : Prg) : Prop where
  n1 : 1 ≤ p.2.1.length
  nm : p.2.1.length + p.2.2.2.length ≤ 5
  dl : p.1.length = p.2.1.length
  al : p.2.2.1.length = p.2.2.2.length
  d : ∀ r ∈ p.1, r.length = p.2.1.length ∧ ∀ x ∈ r, -20 ≤ x ∧ x ≤ 20
  c : ∀ x ∈ p.2.1, -100 ≤ x ∧ x ≤ 100
  b : ∀ x ∈ p.2.2.2, -100 ≤ x ∧ x ≤ 100
  a : ∀ r ∈ p.2.2.1, r.length = p.2.1.length ∧ ∀ x ∈ r, -20 ≤ x ∧ x ≤ 20
  sym : ∀ i k (hi : i < p.1.length) (hk : k < p.1.length) (h1 : k < p.1[i].length) (h2 : i < p.1[k].length), p.1[i][k] = p.1[k][i]

end Go.Proofs.YtgdiebnokgnniaaGreatDoor

/-! The problem of a program, as a plain value. No condition. -/
namespace Go.Proofs.YtgdiebnokgnniaaGreatDoor
open Go.Ab

def neg (xs : List Int) : List Int := xs.map (fun x => -x)
/-- The first rows of a program's problem. -/
def prgTop (p : Prg) (i : Nat) : List (List Int) := (List.range i).map fun i => p.1.getD i [] ++ (List.range p.2.2.2.length).map fun j => -((p.2.2.1.getD j []).getD i 0)
def prgLow (p : Prg) (j : Nat) : List (List Int) := (p.2.2.1.take j).map fun r => r ++ List.replicate p.2.2.2.length 0
def prgProblem (p : Prg) : Prob := (prgTop p p.2.1.length ++ prgLow p p.2.2.1.length, p.2.1 ++ neg p.2.2.2)

noncomputable def ppRes (p : Prg) : Prob × Int := open Classical in if IsPrg p then (prgProblem p, 0) else (([], []), 1)

end Go.Proofs.YtgdiebnokgnniaaGreatDoor

/-! Sums of products: sum, form, slopes; what LeastAlong comes to. No condition. -/
namespace Go.Proofs.YtgdiebnokgnniaaGreatDoor
open Go.Ab

/- loop.example/g01343/impl.sum -/
def f104.l1 (Q : Post) (v1 : Value) (a_0 : Value) (b_1 : Value) (I1 : St [5, 10] → Heap → Prop) (total_5 : Value) (x_10 : Value) (H : Heap) : Prop :=
  W.bin .lss x_10 v1 H fun v2 H =>
  W.cond v2 H
  (fun H => W.indexAddr 1 a_0 x_10 H fun v3 H =>
   W.get v3 H fun v4 H =>
   W.indexAddr 1 b_1 x_10 H fun v5 H =>
   W.get v5 H fun v6 H =>
   W.bin .mul v4 v6 H fun v7 H =>
   W.bin .add total_5 v7 H fun v8 H =>
   W.bin .add x_10 (.int .i64 1) H fun v9 H =>
   I1 (v8, v9, ()) H)
  (fun H => Q total_5 H)
def f104.w (Q : Post) (a_0 : Value) (b_1 : Value) (H : Heap) : Prop :=
  W.len a_0 H fun v1 H =>
  W.loop (S := St [5, 10]) (fun I1 s H => f104.l1 Q v1 a_0 b_1 I1 s.1 s.2.1 H) ((.int .i64 0), (.int .i64 0), ()) H
theorem f104.enter {Q : Post} {a_0 : Value} {b_1 : Value} {H : Heap} (h : f104.w Q a_0 b_1 H) : Runs Tryz.prog 104 #[a_0, b_1] H Q :=
  fn_enter (ann := [(3, [5, 10])]) (by kernel_rfl) Tryz.func104 rfl (by kernel_rfl) h (by kernel_rfl)


def sumTo (f : Nat → Int) : Nat → Int
  | 0 => 0
  | n + 1 => sumTo f n + f n

theorem sumTo_congr {f g : Nat → Int} : ∀ {n : Nat}, (∀ i, i < n → f i = g i) → sumTo f n = sumTo g n
  | 0, _ => rfl
  | n + 1, h => by simp only [sumTo]; rw [sumTo_congr fun i hi => h i (by omega), h n (by omega)]

theorem sumTo_mul (c : Int) (f : Nat → Int) : ∀ n, sumTo (fun i => c * f i) n = c * sumTo f n
  | 0 => by simp [sumTo]
  | n + 1 => by simp only [sumTo]; rw [sumTo_mul c f n, Int.mul_add]

theorem sumTo_add (f g : Nat → Int) : ∀ n, sumTo (fun i => f i + g i) n = sumTo f n + sumTo g n
  | 0 => by simp [sumTo]
  | n + 1 => by simp only [sumTo]; rw [sumTo_add f g n]; omega

theorem sumTo_abs {f : Nat → Int} {B : Nat} : ∀ {n : Nat}, (∀ i, i < n → (f i).natAbs ≤ B) → (sumTo f n).natAbs ≤ n * B
  | 0, _ => by simp [sumTo]
  | n + 1, h => by
    have h1 := sumTo_abs fun i hi => h i (Nat.lt_succ_of_lt hi)
    have h2 := h n (Nat.lt_succ_self n)
    simp only [sumTo]
    rw [Nat.succ_mul]
    omega

theorem mul_abs {x y : Int} {A B : Nat} (h1 : x.natAbs ≤ A) (h2 : y.natAbs ≤ B) : (x * y).natAbs ≤ A * B := by
  rw [Int.natAbs_mul]
  exact Nat.mul_le_mul h1 h2

theorem getD_abs {a : List Int} {A : Nat} (h : ∀ x ∈ a, x.natAbs ≤ A) (i : Nat) : (a.getD i 0).natAbs ≤ A := by
  by_cases hi : i < a.length
  · simpa [List.getD_eq_getElem?_getD, List.getElem?_eq_getElem hi] using h _ (List.getElem_mem hi)
  · simp [List.getD_eq_getElem?_getD, List.getElem?_eq_none (show a.length ≤ i by omega)]

theorem getD_at {a : List Int} {i : Nat} (hi : i < a.length) : a.getD i 0 = a[i] := by simp [List.getD_eq_getElem?_getD, List.getElem?_eq_getElem hi]
theorem getD_row {m : List (List Int)} {i : Nat} (hi : i < m.length) : m.getD i [] = m[i] := by simp [List.getD_eq_getElem?_getD, List.getElem?_eq_getElem hi]

abbrev dotF (a b : List Int) : Nat → Int := fun j => a.getD j 0 * b.getD j 0
def dot (a b : List Int) : Int := sumTo (dotF a b) a.length

theorem dot_abs {a b : List Int} {A B : Nat} (hA : ∀ x ∈ a, x.natAbs ≤ A) (hB : ∀ x ∈ b, x.natAbs ≤ B) : (dot a b).natAbs ≤ a.length * (A * B) :=
  sumTo_abs fun i _ => mul_abs (getD_abs hA i) (getD_abs hB i)

theorem abs_i64 {x : Int} {B : Nat} (h : x.natAbs ≤ B) (hB : B < 9223372036854775808) : I64 x := by unfold I64; omega

theorem le_small {a i n : Nat} (h : i ≤ n) (hs : n * a < 9223372036854775808) : i * a < 9223372036854775808 := Nat.lt_of_le_of_lt (Nat.mul_le_mul_right a h) hs

theorem fn104 {H0 : Heap} {Q : Post} {va vb : Value} {a b : List Int} (ha : Has RS H0 [va] a) (hb : Has RS H0 [vb] b) (hl : a.length ≤ b.length) {A B : Nat} (hA : ∀ x ∈ a, x.natAbs ≤ A) (hB : ∀ x ∈ b, x.natAbs ≤ B)
    (hs : a.length * (A * B) < 9223372036854775808) (hQ : Q (.int .i64 (dot a b)) H0) : Runs Tryz.prog 104 #[va, vb] H0 Q := by
  have hsm := ha.small
  have hP : ∀ i, i < a.length → (dotF a b i).natAbs ≤ A * B := fun i _ => mul_abs (getD_abs hA i) (getD_abs hB i)
  refine f104.enter (Wl.lenH ha (W.for_rule a.length (fun i s H => H = H0 ∧ s = (.int .i64 (sumTo (dotF a b) i), .int .i64 (i : Nat), ())) ⟨rfl, rfl⟩ ?_))
  rintro i s H J hi ⟨rfl, rfl⟩ hJ
  refine Wi.lssC (fun hlt => Wi.tru ?_) fun hge => Wi.fls ?_
  · have hix : i < a.length := by omega
    have hib : i < b.length := by omega
    have e : dotF a b i = a[i] * b[i] := by simp only [dotF]; rw [getD_at hix, getD_at hib]
    have h1 := hP i hix
    have h2 : (sumTo (dotF a b) (i + 1)).natAbs ≤ (i + 1) * (A * B) := sumTo_abs fun j hj => hP j (by omega)
    have h3 := abs_i64 h2 (le_small (show i + 1 ≤ a.length by omega) hs)
    have h4 := abs_i64 h1 (by have := le_small (show 1 ≤ a.length by omega) hs; omega)
    simp only [sumTo] at h3
    rw [e] at h3 h4
    refine Wl.atIntH ha hix fun _ => Wl.atIntH hb hib fun _ => Wi.mul h4 (Wi.add h3 (Wi.add (by unfold I64; omega) (hJ _ _ hix ⟨rfl, ?_⟩)))
    simp only [sumTo]
    rw [e]
    rfl
  · have : i = a.length := by omega
    subst this
    exact hQ

def formV (m : List (List Int)) (x y : List Int) : Int := sumTo (fun i => x.getD i 0 * dot (m.getD i []) y) m.length

theorem row_dot {m : List (List Int)} {y : List Int} {N M Y : Nat} (hm : ∀ r ∈ m, r.length ≤ N ∧ ∀ e ∈ r, e.natAbs ≤ M) (hY : ∀ e ∈ y, e.natAbs ≤ Y) (i : Nat) : (dot (m.getD i []) y).natAbs ≤ N * (M * Y) := by
  by_cases hi : i < m.length
  · rw [getD_row hi]
    have := hm _ (List.getElem_mem hi)
    exact Nat.le_trans (dot_abs this.2 hY) (Nat.mul_le_mul_right _ this.1)
  · simp [List.getD_eq_getElem?_getD, List.getElem?_eq_none (show m.length ≤ i by omega), dot, sumTo]


/-- The slopes of a program at a point. -/
def slopesV (p : Prg) (x : List Int) : List Int := (List.range p.1.length).map fun i => p.2.1.getD i 0 * 1 + dot (p.1.getD i []) x


abbrev zFr : Frac := (0, 0)
def bendV (p : Prg) (u : List Int) : Int := formV p.1 u u
def slopeV (p : Prg) (x u : List Int) : Int := dot u (slopesV p x)
def twiceV (p : Prg) (x : List Int) : Int := formV p.1 x x + 2 * dot p.2.1 x

/-- The places of LeastAlong are told. -/
def laOK (p : Prg) (x u : List Int) : Prop := x.length = p.2.1.length ∧ u.length = p.2.1.length ∧ allUp 100 x = true ∧ allUp 100 u = true

noncomputable def laRes (p : Prg) (x u : List Int) : Frac × Frac × Int := open Classical in
  if IsPrg p then (if laOK p x u then (if 0 < bendV p u then
    (if (fracT (-slopeV p x u) (bendV p u)).2 = 0 ∧ (fracT (twiceV p x * bendV p u - slopeV p x u * slopeV p x u) (2 * bendV p u)).2 = 0 then
      ((fracT (-slopeV p x u) (bendV p u)).1, (fracT (twiceV p x * bendV p u - slopeV p x u * slopeV p x u) (2 * bendV p u)).1, 0) else (zFr, zFr, 3)) else (zFr, zFr, 5)) else (zFr, zFr, 2)) else (zFr, zFr, 1)

end Go.Proofs.YtgdiebnokgnniaaGreatDoor

/-! When numbers with a common denominator solve a problem, as plain values; the problem of a program is one. No condition. -/
namespace Go.Proofs.YtgdiebnokgnniaaGreatDoor
open Go.Ab

/-- The remainder, times the denominator. -/
def restN (P : Prob) (d : Int) (l : List Int) (i : Nat) : Int := P.2.getD i 0 * d + dot (P.1.getD i []) l
def restL (n : Nat) (P : Prob) (d : Int) (l : List Int) : List Int := (List.range n).map (restN P d l)

theorem restL_len (n : Nat) (P : Prob) (d : Int) (l : List Int) : (restL n P d l).length = n := by simp [restL]
theorem restL_at {n : Nat} (P : Prob) (d : Int) (l : List Int) {i : Nat} (h : i < (restL n P d l).length) : (restL n P d l)[i] = restN P d l i := by simp [restL]

theorem PB.row {n : Nat} {P : Prob} (hp : PB n P) : ∀ r ∈ P.1, r.length ≤ 5 ∧ ∀ e ∈ r, e.natAbs ≤ 20 := fun r hr => by
  obtain ⟨i, hi, rfl⟩ := List.mem_iff_getElem.1 hr
  have hl := hp.sq.2 _ hr
  refine ⟨by have := hp.n5; omega, fun e he => ?_⟩
  obtain ⟨k, hk, rfl⟩ := List.mem_iff_getElem.1 he
  rw [show P.1[i][k] = mAt P.1 i k from (mAt_at hi hk).symm]
  exact hp.m i k

theorem rest_bound {n : Nat} {P : Prob} (hp : PB n P) {l : List Int} {d : Int} (hd : d.natAbs ≤ 1000000000) (hl : ∀ e ∈ l, e.natAbs ≤ 1000000000000) (i : Nat) :
    (P.2.getD i 0 * d).natAbs ≤ 100 * 1000000000 ∧ (dot (P.1.getD i []) l).natAbs ≤ 5 * (20 * 1000000000000) ∧ (restN P d l i).natAbs ≤ 200000000000000 := by
  have h1 := mul_abs (getD_abs hp.q i) hd
  have h2 := row_dot hp.row hl i
  exact ⟨h1, h2, by unfold restN; omega⟩

/-- At one place. -/
def okI (w a : Int) : Bool := decide (0 ≤ w) && (decide (0 ≤ a) && !(decide (0 < w) && decide (0 < a)))

def solV (n : Nat) (P : Prob) (l : List Int) (d : Int) : Bool := allN n fun i => okI (restN P d l i) (l.getD i 0)

theorem okI_iff {w a : Int} : okI w a = true ↔ 0 ≤ w ∧ 0 ≤ a ∧ ¬ (0 < w ∧ 0 < a) := by
  simp [okI]
  omega

def stOf (n : Nat) (P : Prob) : Option (List Int × Int) → Bool × Int
  | none => (false, 3)
  | some (l, d) => (solV n P l d, 0)

noncomputable def stRes (p : Prg) (xs ys : List Frac) : Bool × Int := open Classical in
  if IsPrg p ∧ Frs xs ∧ Frs ys then (if xs.length = p.2.1.length ∧ ys.length = p.2.2.2.length then stOf (p.2.1.length + p.2.2.2.length) (prgProblem p) (tog 1000000000 1000000000000 (xs ++ ys)) else (false, 2)) else (false, 1)

end Go.Proofs.YtgdiebnokgnniaaGreatDoor

/-! Contracts of slices.Grow and slices.Concat, numbers. No condition. -/
namespace Go.Proofs.YtgdiebnokgnniaaGreatDoor
open Go.Ab




end Go.Proofs.YtgdiebnokgnniaaGreatDoor

/-! Numbers times -1. No condition. -/
namespace Go.Proofs.YtgdiebnokgnniaaGreatDoor
open Go.Ab




end Go.Proofs.YtgdiebnokgnniaaGreatDoor

/-! Contracts of the program's problem and ProgramProblem. No condition. -/
namespace Go.Proofs.YtgdiebnokgnniaaGreatDoor
open Go.Ab





end Go.Proofs.YtgdiebnokgnniaaGreatDoor
