/- Sums of products: sum, form, slopes; what LeastAlong comes to. No condition. -/
import Derived.Test.YthfcodelpebjcaaGreatGAB
import Derived.Test.YthfcodelpebjcaaGreatP1
namespace Go.Proofs.YthfcodelpebjcaaGreat
open Go.Ab

/- loop.example/g01343/impl.sum -/
def f64.l1 (Q : Post) (v1 : Value) (a_0 : Value) (b_1 : Value) (I1 : St [5, 10] → Heap → Prop) (total_5 : Value) (x_10 : Value) (H : Heap) : Prop :=
  W.bin .lss x_10 v1 H fun v2 H =>
  W.cond v2 H
  (fun H => W.indexAddr 1 a_0 x_10 H fun v3 H =>
   W.get v3 H fun v4 H =>
   W.indexAddr 1 b_1 x_10 H fun v5 H =>
   W.get v5 H fun v6 H =>
   W.bin .mul v4 v6 H fun v7 H =>
   W.bin .add total_5 v7 H fun v8 H =>
   W.bin .add x_10 (.int .i64 1) H fun v9 H =>
   I1 (v8, v9, ()) H)
  (fun H => Q total_5 H)
def f64.w (Q : Post) (a_0 : Value) (b_1 : Value) (H : Heap) : Prop :=
  W.len a_0 H fun v1 H =>
  W.loop (S := St [5, 10]) (fun I1 s H => f64.l1 Q v1 a_0 b_1 I1 s.1 s.2.1 H) ((.int .i64 0), (.int .i64 0), ()) H
theorem f64.enter {Q : Post} {a_0 : Value} {b_1 : Value} {H : Heap} (h : f64.w Q a_0 b_1 H) : Runs Tryz.prog 64 #[a_0, b_1] H Q :=
  fn_enter (ann := [(3, [5, 10])]) (by kernel_rfl) Tryz.func64 rfl (by kernel_rfl) h (by kernel_rfl)


def sumTo (f : Nat → Int) : Nat → Int
  | 0 => 0
  | n + 1 => sumTo f n + f n

theorem sumTo_congr {f g : Nat → Int} : ∀ {n : Nat}, (∀ i, i < n → f i = g i) → sumTo f n = sumTo g n
  | 0, _ => rfl
  | n + 1, h => by simp only [sumTo]; rw [sumTo_congr fun i hi => h i (by omega), h n (by omega)]

theorem sumTo_mul (c : Int) (f : Nat → Int) : ∀ n, sumTo (fun i => c * f i) n = c * sumTo f n
  | 0 => by simp [sumTo]
  | n + 1 => by simp only [sumTo]; rw [sumTo_mul c f n, Int.mul_add]

theorem sumTo_add (f g : Nat → Int) : ∀ n, sumTo (fun i => f i + g i) n = sumTo f n + sumTo g n
  | 0 => by simp [sumTo]
  | n + 1 => by simp only [sumTo]; rw [sumTo_add f g n]; omega

theorem sumTo_abs {f : Nat → Int} {B : Nat} : ∀ {n : Nat}, (∀ i, i < n → (f i).natAbs ≤ B) → (sumTo f n).natAbs ≤ n * B
  | 0, _ => by simp [sumTo]
  | n + 1, h => by
    have h1 := sumTo_abs fun i hi => h i (Nat.lt_succ_of_lt hi)
    have h2 := h n (Nat.lt_succ_self n)
    simp only [sumTo]
    rw [Nat.succ_mul]
    omega

theorem mul_abs {x y : Int} {A B : Nat} (h1 : x.natAbs ≤ A) (h2 : y.natAbs ≤ B) : (x * y).natAbs ≤ A * B := by
  rw [Int.natAbs_mul]
  exact Nat.mul_le_mul h1 h2

theorem getD_abs {a : List Int} {A : Nat} (h : ∀ x ∈ a, x.natAbs ≤ A) (i : Nat) : (a.getD i 0).natAbs ≤ A := by
  by_cases hi : i < a.length
  · simpa [List.getD_eq_getElem?_getD, List.getElem?_eq_getElem hi] using h _ (List.getElem_mem hi)
  · simp [List.getD_eq_getElem?_getD, List.getElem?_eq_none (show a.length ≤ i by omega)]

theorem getD_at {a : List Int} {i : Nat} (hi : i < a.length) : a.getD i 0 = a[i] := by simp [List.getD_eq_getElem?_getD, List.getElem?_eq_getElem hi]
theorem getD_row {m : List (List Int)} {i : Nat} (hi : i < m.length) : m.getD i [] = m[i] := by simp [List.getD_eq_getElem?_getD, List.getElem?_eq_getElem hi]

abbrev dotF (a b : List Int) : Nat → Int := fun j => a.getD j 0 * b.getD j 0
def dot (a b : List Int) : Int := sumTo (dotF a b) a.length

theorem dot_abs {a b : List Int} {A B : Nat} (hA : ∀ x ∈ a, x.natAbs ≤ A) (hB : ∀ x ∈ b, x.natAbs ≤ B) : (dot a b).natAbs ≤ a.length * (A * B) :=
  sumTo_abs fun i _ => mul_abs (getD_abs hA i) (getD_abs hB i)

theorem abs_i64 {x : Int} {B : Nat} (h : x.natAbs ≤ B) (hB : B < 9223372036854775808) : I64 x := by unfold I64; omega

theorem le_small {a i n : Nat} (h : i ≤ n) (hs : n * a < 9223372036854775808) : i * a < 9223372036854775808 := Nat.lt_of_le_of_lt (Nat.mul_le_mul_right a h) hs

theorem fn64 {H0 : Heap} {Q : Post} {va vb : Value} {a b : List Int} (ha : Has RS H0 [va] a) (hb : Has RS H0 [vb] b) (hl : a.length ≤ b.length) {A B : Nat} (hA : ∀ x ∈ a, x.natAbs ≤ A) (hB : ∀ x ∈ b, x.natAbs ≤ B)
    (hs : a.length * (A * B) < 9223372036854775808) (hQ : Q (.int .i64 (dot a b)) H0) : Runs Tryz.prog 64 #[va, vb] H0 Q := by
  have hsm := ha.small
  have hP : ∀ i, i < a.length → (dotF a b i).natAbs ≤ A * B := fun i _ => mul_abs (getD_abs hA i) (getD_abs hB i)
  refine f64.enter (Wl.lenH ha (W.for_rule a.length (fun i s H => H = H0 ∧ s = (.int .i64 (sumTo (dotF a b) i), .int .i64 (i : Nat), ())) ⟨rfl, rfl⟩ ?_))
  rintro i s H J hi ⟨rfl, rfl⟩ hJ
  refine Wi.lssC (fun hlt => Wi.tru ?_) fun hge => Wi.fls ?_
  · have hix : i < a.length := by omega
    have hib : i < b.length := by omega
    have e : dotF a b i = a[i] * b[i] := by simp only [dotF]; rw [getD_at hix, getD_at hib]
    have h1 := hP i hix
    have h2 : (sumTo (dotF a b) (i + 1)).natAbs ≤ (i + 1) * (A * B) := sumTo_abs fun j hj => hP j (by omega)
    have h3 := abs_i64 h2 (le_small (show i + 1 ≤ a.length by omega) hs)
    have h4 := abs_i64 h1 (by have := le_small (show 1 ≤ a.length by omega) hs; omega)
    simp only [sumTo] at h3
    rw [e] at h3 h4
    refine Wl.atIntH ha hix fun _ => Wl.atIntH hb hib fun _ => Wi.mul h4 (Wi.add h3 (Wi.add (by unfold I64; omega) (hJ _ _ hix ⟨rfl, ?_⟩)))
    simp only [sumTo]
    rw [e]
    rfl
  · have : i = a.length := by omega
    subst this
    exact hQ

def formV (m : List (List Int)) (x y : List Int) : Int := sumTo (fun i => x.getD i 0 * dot (m.getD i []) y) m.length

theorem row_dot {m : List (List Int)} {y : List Int} {N M Y : Nat} (hm : ∀ r ∈ m, r.length ≤ N ∧ ∀ e ∈ r, e.natAbs ≤ M) (hY : ∀ e ∈ y, e.natAbs ≤ Y) (i : Nat) : (dot (m.getD i []) y).natAbs ≤ N * (M * Y) := by
  by_cases hi : i < m.length
  · rw [getD_row hi]
    have := hm _ (List.getElem_mem hi)
    exact Nat.le_trans (dot_abs this.2 hY) (Nat.mul_le_mul_right _ this.1)
  · simp [List.getD_eq_getElem?_getD, List.getElem?_eq_none (show m.length ≤ i by omega), dot, sumTo]


/-- The slopes of a program at a point. -/
def slopesV (p : Prg) (x : List Int) : List Int := (List.range p.1.length).map fun i => p.2.1.getD i 0 * 1 + dot (p.1.getD i []) x


abbrev zFr : Frac := (0, 0)
def bendV (p : Prg) (u : List Int) : Int := formV p.1 u u
def slopeV (p : Prg) (x u : List Int) : Int := dot u (slopesV p x)
def twiceV (p : Prg) (x : List Int) : Int := formV p.1 x x + 2 * dot p.2.1 x

/-- The places of LeastAlong are told. -/
def laOK (p : Prg) (x u : List Int) : Prop := x.length = p.2.1.length ∧ u.length = p.2.1.length ∧ allUp 100 x = true ∧ allUp 100 u = true

noncomputable def laRes (p : Prg) (x u : List Int) : Frac × Frac × Int := open Classical in
  if IsPrg p then (if laOK p x u then (if 0 < bendV p u then
    (if (fracT (-slopeV p x u) (bendV p u)).2 = 0 ∧ (fracT (twiceV p x * bendV p u - slopeV p x u * slopeV p x u) (2 * bendV p u)).2 = 0 then
      ((fracT (-slopeV p x u) (bendV p u)).1, (fracT (twiceV p x * bendV p u - slopeV p x u * slopeV p x u) (2 * bendV p u)).1, 0) else (zFr, zFr, 3)) else (zFr, zFr, 5)) else (zFr, zFr, 2)) else (zFr, zFr, 1)

theorem up_abs {xs : List Int} (h : allUp 100 xs = true) : ∀ e ∈ xs, e.natAbs ≤ 100 := fun e he => by
  have := allUp_iff.1 h e he
  omega

theorem mul5 {n N : Nat} (h : n ≤ 5) : n * N ≤ 5 * N := Nat.mul_le_mul_right _ h

theorem bend_abs {p : Prg} (hp : IsPrg p) {x u : List Int} (hX : ∀ e ∈ x, e.natAbs ≤ 100) (hU : ∀ e ∈ u, e.natAbs ≤ 100) : (formV p.1 x u).natAbs ≤ 5000000 := by
  have n1 := hp.n1; have nm := hp.nm; have dl := hp.dl
  have hd : ∀ r ∈ p.1, r.length ≤ 5 ∧ ∀ e ∈ r, e.natAbs ≤ 20 := fun r hr => ⟨by have := hp.d r hr; omega, fun e he => by have := (hp.d r hr).2 e he; omega⟩
  have h1 : (formV p.1 x u).natAbs ≤ p.1.length * (100 * (5 * (20 * 100))) := sumTo_abs fun i _ => mul_abs (getD_abs hX i) (row_dot hd hU i)
  have := mul5 (n := p.1.length) (N := 100 * (5 * (20 * 100))) (by omega)
  omega

theorem slopes_abs {p : Prg} (hp : IsPrg p) {x : List Int} (hX : ∀ e ∈ x, e.natAbs ≤ 100) : ∀ e ∈ slopesV p x, e.natAbs ≤ 10100 := fun e he => by
  have hd : ∀ r ∈ p.1, r.length ≤ 5 ∧ ∀ e ∈ r, e.natAbs ≤ 20 := fun r hr => ⟨by have := hp.d r hr; have := hp.nm; omega, fun e he => by have := (hp.d r hr).2 e he; omega⟩
  simp only [slopesV, List.mem_map] at he
  obtain ⟨i, _, rfl⟩ := he
  have h1 := getD_abs (a := p.2.1) (A := 100) (fun e he => by have := hp.c e he; omega) i
  have h2 := row_dot hd hX i
  omega

theorem slope_abs {p : Prg} (hp : IsPrg p) {x u : List Int} (hl : u.length = p.2.1.length) (hX : ∀ e ∈ x, e.natAbs ≤ 100) (hU : ∀ e ∈ u, e.natAbs ≤ 100) : (slopeV p x u).natAbs ≤ 5050000 := by
  have n1 := hp.n1; have nm := hp.nm
  have h1 := dot_abs hU (slopes_abs hp hX)
  have := mul5 (n := u.length) (N := 100 * 10100) (by omega)
  unfold slopeV
  omega

theorem dotc_abs {p : Prg} (hp : IsPrg p) {x : List Int} (hX : ∀ e ∈ x, e.natAbs ≤ 100) : (dot p.2.1 x).natAbs ≤ 50000 := by
  have n1 := hp.n1; have nm := hp.nm
  have h1 := dot_abs (a := p.2.1) (A := 100) (fun e he => by have := hp.c e he; omega) hX
  have := mul5 (n := p.2.1.length) (N := 100 * 100) (by omega)
  omega

theorem twice_abs {p : Prg} (hp : IsPrg p) {x : List Int} (hX : ∀ e ∈ x, e.natAbs ≤ 100) : (twiceV p x).natAbs ≤ 5100000 := by
  have h1 := bend_abs hp hX hX
  have h2 := dotc_abs hp hX
  unfold twiceV
  omega

end Go.Proofs.YthfcodelpebjcaaGreat
