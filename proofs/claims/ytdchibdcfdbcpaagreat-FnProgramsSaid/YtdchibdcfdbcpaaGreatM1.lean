/- Sums of products: sum, form, slopes; what LeastAlong comes to. No condition. -/
import Derived.Test.YtdchibdcfdbcpaaGreatGAA
namespace Go.Proofs.YtdchibdcfdbcpaaGreat
open Go.Ab

/- loop.example/g01343/impl.sum -/
def f67.l1 (Q : Post) (v1 : Value) (a_0 : Value) (b_1 : Value) (I1 : St [5, 10] → Heap → Prop) (total_5 : Value) (x_10 : Value) (H : Heap) : Prop :=
  W.bin .lss x_10 v1 H fun v2 H =>
  W.cond v2 H
  (fun H => W.indexAddr 1 a_0 x_10 H fun v3 H =>
   W.get v3 H fun v4 H =>
   W.indexAddr 1 b_1 x_10 H fun v5 H =>
   W.get v5 H fun v6 H =>
   W.bin .mul v4 v6 H fun v7 H =>
   W.bin .add total_5 v7 H fun v8 H =>
   W.bin .add x_10 (.int .i64 1) H fun v9 H =>
   I1 (v8, v9, ()) H)
  (fun H => Q total_5 H)
def f67.w (Q : Post) (a_0 : Value) (b_1 : Value) (H : Heap) : Prop :=
  W.len a_0 H fun v1 H =>
  W.loop (S := St [5, 10]) (fun I1 s H => f67.l1 Q v1 a_0 b_1 I1 s.1 s.2.1 H) ((.int .i64 0), (.int .i64 0), ()) H
theorem f67.enter {Q : Post} {a_0 : Value} {b_1 : Value} {H : Heap} (h : f67.w Q a_0 b_1 H) : Runs Tryz.prog 67 #[a_0, b_1] H Q :=
  fn_enter (ann := [(3, [5, 10])]) (by kernel_rfl) Tryz.func67 rfl (by kernel_rfl) h (by kernel_rfl)

/- loop.example/g01343/impl.form -/
def f86.l1 (Q : Post) (v1 : Value) (m_0 : Value) (x_1 : Value) (y_2 : Value) (I1 : St [7, 12] → Heap → Prop) (total_7 : Value) (x_12 : Value) (H : Heap) : Prop :=
  W.bin .lss x_12 v1 H fun v2 H =>
  W.cond v2 H
  (fun H => W.indexAddr 1 m_0 x_12 H fun v3 H =>
   W.get v3 H fun v4 H =>
   W.indexAddr 1 x_1 x_12 H fun v5 H =>
   W.get v5 H fun v6 H =>
   W.callQ Tryz.prog (.func (.func 67) #[] #[]) #[v4, y_2] H fun v7 H =>
   W.bin .mul v6 v7 H fun v8 H =>
   W.bin .add total_7 v8 H fun v9 H =>
   W.bin .add x_12 (.int .i64 1) H fun v10 H =>
   I1 (v9, v10, ()) H)
  (fun H => Q total_7 H)
def f86.w (Q : Post) (m_0 : Value) (x_1 : Value) (y_2 : Value) (H : Heap) : Prop :=
  W.len m_0 H fun v1 H =>
  W.loop (S := St [7, 12]) (fun I1 s H => f86.l1 Q v1 m_0 x_1 y_2 I1 s.1 s.2.1 H) ((.int .i64 0), (.int .i64 0), ()) H
theorem f86.enter {Q : Post} {m_0 : Value} {x_1 : Value} {y_2 : Value} {H : Heap} (h : f86.w Q m_0 x_1 y_2 H) : Runs Tryz.prog 86 #[m_0, x_1, y_2] H Q :=
  fn_enter (ann := [(3, [7, 12])]) (by kernel_rfl) Tryz.func86 rfl (by kernel_rfl) h (by kernel_rfl)

/- (loop.example/g01343/impl.Program).slopes -/
def f87.l1 (Q : Post) (v4 : Value) (v3 : Value) (v1 : Value) (den_2 : Value) (list_1 : Value) (I1 : St [7, 13] → Heap → Prop) (out_7 : Value) (x_13 : Value) (H : Heap) : Prop :=
  W.bin .lss x_13 v4 H fun v5 H =>
  W.cond v5 H
  (fun H => W.indexAddr 1 v3 x_13 H fun v6 H =>
   W.get v6 H fun v7 H =>
   W.fieldAddr 1 v1 H fun v8 H =>
   W.get v8 H fun v9 H =>
   W.indexAddr 1 v9 x_13 H fun v10 H =>
   W.get v10 H fun v11 H =>
   W.bin .mul v11 den_2 H fun v12 H =>
   W.callQ Tryz.prog (.func (.func 67) #[] #[]) #[v7, list_1] H fun v13 H =>
   W.bin .add v12 v13 H fun v14 H =>
   W.lit 1 [(.int .i64 0)] 2 [(0, 1, v14)] H fun v15 H =>
   W.append 1 2 out_7 v15 H fun v16 H =>
   W.bin .add x_13 (.int .i64 1) H fun v17 H =>
   I1 (v16, v17, ()) H)
  (fun H => Q out_7 H)
def f87.w (Q : Post) (p_0 : Value) (list_1 : Value) (den_2 : Value) (H : Heap) : Prop :=
  W.box p_0 27 H fun v1 H =>
  W.fieldAddr 0 v1 H fun v2 H =>
  W.get v2 H fun v3 H =>
  W.len v3 H fun v4 H =>
  W.loop (S := St [7, 13]) (fun I1 s H => f87.l1 Q v4 v3 v1 den_2 list_1 I1 s.1 s.2.1 H) ((.slice none 0 0), (.int .i64 0), ()) H
theorem f87.enter {Q : Post} {p_0 : Value} {list_1 : Value} {den_2 : Value} {H : Heap} (h : f87.w Q p_0 list_1 den_2 H) : Runs Tryz.prog 87 #[p_0, list_1, den_2] H Q :=
  fn_enter (ann := [(3, [7, 13])]) (by kernel_rfl) Tryz.func87 rfl (by kernel_rfl) h (by kernel_rfl)


def sumTo (f : Nat → Int) : Nat → Int
  | 0 => 0
  | n + 1 => sumTo f n + f n

theorem sumTo_congr {f g : Nat → Int} : ∀ {n : Nat}, (∀ i, i < n → f i = g i) → sumTo f n = sumTo g n
  | 0, _ => rfl
  | n + 1, h => by simp only [sumTo]; rw [sumTo_congr fun i hi => h i (by omega), h n (by omega)]

theorem sumTo_mul (c : Int) (f : Nat → Int) : ∀ n, sumTo (fun i => c * f i) n = c * sumTo f n
  | 0 => by simp [sumTo]
  | n + 1 => by simp only [sumTo]; rw [sumTo_mul c f n, Int.mul_add]

theorem sumTo_add (f g : Nat → Int) : ∀ n, sumTo (fun i => f i + g i) n = sumTo f n + sumTo g n
  | 0 => by simp [sumTo]
  | n + 1 => by simp only [sumTo]; rw [sumTo_add f g n]; omega

theorem sumTo_abs {f : Nat → Int} {B : Nat} : ∀ {n : Nat}, (∀ i, i < n → (f i).natAbs ≤ B) → (sumTo f n).natAbs ≤ n * B
  | 0, _ => by simp [sumTo]
  | n + 1, h => by
    have h1 := sumTo_abs fun i hi => h i (Nat.lt_succ_of_lt hi)
    have h2 := h n (Nat.lt_succ_self n)
    simp only [sumTo]
    rw [Nat.succ_mul]
    omega

theorem mul_abs {x y : Int} {A B : Nat} (h1 : x.natAbs ≤ A) (h2 : y.natAbs ≤ B) : (x * y).natAbs ≤ A * B := by
  rw [Int.natAbs_mul]
  exact Nat.mul_le_mul h1 h2

theorem getD_abs {a : List Int} {A : Nat} (h : ∀ x ∈ a, x.natAbs ≤ A) (i : Nat) : (a.getD i 0).natAbs ≤ A := by
  by_cases hi : i < a.length
  · simpa [List.getD_eq_getElem?_getD, List.getElem?_eq_getElem hi] using h _ (List.getElem_mem hi)
  · simp [List.getD_eq_getElem?_getD, List.getElem?_eq_none (show a.length ≤ i by omega)]

theorem getD_at {a : List Int} {i : Nat} (hi : i < a.length) : a.getD i 0 = a[i] := by simp [List.getD_eq_getElem?_getD, List.getElem?_eq_getElem hi]
theorem getD_row {m : List (List Int)} {i : Nat} (hi : i < m.length) : m.getD i [] = m[i] := by simp [List.getD_eq_getElem?_getD, List.getElem?_eq_getElem hi]

abbrev dotF (a b : List Int) : Nat → Int := fun j => a.getD j 0 * b.getD j 0
def dot (a b : List Int) : Int := sumTo (dotF a b) a.length

theorem dot_abs {a b : List Int} {A B : Nat} (hA : ∀ x ∈ a, x.natAbs ≤ A) (hB : ∀ x ∈ b, x.natAbs ≤ B) : (dot a b).natAbs ≤ a.length * (A * B) :=
  sumTo_abs fun i _ => mul_abs (getD_abs hA i) (getD_abs hB i)

theorem abs_i64 {x : Int} {B : Nat} (h : x.natAbs ≤ B) (hB : B < 9223372036854775808) : I64 x := by unfold I64; omega

theorem le_small {a i n : Nat} (h : i ≤ n) (hs : n * a < 9223372036854775808) : i * a < 9223372036854775808 := Nat.lt_of_le_of_lt (Nat.mul_le_mul_right a h) hs

theorem fn67 {H0 : Heap} {Q : Post} {va vb : Value} {a b : List Int} (ha : Has RS H0 [va] a) (hb : Has RS H0 [vb] b) (hl : a.length ≤ b.length) {A B : Nat} (hA : ∀ x ∈ a, x.natAbs ≤ A) (hB : ∀ x ∈ b, x.natAbs ≤ B)
    (hs : a.length * (A * B) < 9223372036854775808) (hQ : Q (.int .i64 (dot a b)) H0) : Runs Tryz.prog 67 #[va, vb] H0 Q := by
  have hsm := ha.small
  have hP : ∀ i, i < a.length → (dotF a b i).natAbs ≤ A * B := fun i _ => mul_abs (getD_abs hA i) (getD_abs hB i)
  refine f67.enter (Wl.lenH ha (W.for_rule a.length (fun i s H => H = H0 ∧ s = (.int .i64 (sumTo (dotF a b) i), .int .i64 (i : Nat), ())) ⟨rfl, rfl⟩ ?_))
  rintro i s H J hi ⟨rfl, rfl⟩ hJ
  refine Wi.lssC (fun hlt => Wi.tru ?_) fun hge => Wi.fls ?_
  · have hix : i < a.length := by omega
    have hib : i < b.length := by omega
    have e : dotF a b i = a[i] * b[i] := by simp only [dotF]; rw [getD_at hix, getD_at hib]
    have h1 := hP i hix
    have h2 : (sumTo (dotF a b) (i + 1)).natAbs ≤ (i + 1) * (A * B) := sumTo_abs fun j hj => hP j (by omega)
    have h3 := abs_i64 h2 (le_small (show i + 1 ≤ a.length by omega) hs)
    have h4 := abs_i64 h1 (by have := le_small (show 1 ≤ a.length by omega) hs; omega)
    simp only [sumTo] at h3
    rw [e] at h3 h4
    refine Wl.atIntH ha hix fun _ => Wl.atIntH hb hib fun _ => Wi.mul h4 (Wi.add h3 (Wi.add (by unfold I64; omega) (hJ _ _ hix ⟨rfl, ?_⟩)))
    simp only [sumTo]
    rw [e]
    rfl
  · have : i = a.length := by omega
    subst this
    exact hQ

def formV (m : List (List Int)) (x y : List Int) : Int := sumTo (fun i => x.getD i 0 * dot (m.getD i []) y) m.length

theorem row_dot {m : List (List Int)} {y : List Int} {N M Y : Nat} (hm : ∀ r ∈ m, r.length ≤ N ∧ ∀ e ∈ r, e.natAbs ≤ M) (hY : ∀ e ∈ y, e.natAbs ≤ Y) (i : Nat) : (dot (m.getD i []) y).natAbs ≤ N * (M * Y) := by
  by_cases hi : i < m.length
  · rw [getD_row hi]
    have := hm _ (List.getElem_mem hi)
    exact Nat.le_trans (dot_abs this.2 hY) (Nat.mul_le_mul_right _ this.1)
  · simp [List.getD_eq_getElem?_getD, List.getElem?_eq_none (show m.length ≤ i by omega), dot, sumTo]

theorem fn86 {H0 : Heap} {Q : Post} {vm vx vy : Value} {m : List (List Int)} {x y : List Int} (hm : Has RSS H0 [vm] m) (hx : Has RS H0 [vx] x) (hy : Has RS H0 [vy] y) (hl : m.length ≤ x.length) {N M X Y : Nat} (hM : ∀ r ∈ m, (r.length ≤ N ∧ ∀ e ∈ r, e.natAbs ≤ M) ∧ r.length ≤ y.length)
    (hX : ∀ e ∈ x, e.natAbs ≤ X) (hY : ∀ e ∈ y, e.natAbs ≤ Y) (hs : m.length * (X * (N * (M * Y))) < 9223372036854775808) (hs2 : N * (M * Y) < 9223372036854775808) (hQ : Q (.int .i64 (formV m x y)) H0) : Runs Tryz.prog 86 #[vm, vx, vy] H0 Q := by
  have hsm := hm.small
  have hP : ∀ i, (x.getD i 0 * dot (m.getD i []) y).natAbs ≤ X * (N * (M * Y)) := fun i => mul_abs (getD_abs hX i) (row_dot (fun r hr => (hM r hr).1) hY i)
  refine f86.enter (Wl.lenH hm (W.for_rule m.length (fun i s H => H = H0 ∧ s = (.int .i64 (sumTo (fun i => x.getD i 0 * dot (m.getD i []) y) i), .int .i64 (i : Nat), ())) ⟨rfl, rfl⟩ ?_))
  rintro i s H J hi ⟨rfl, rfl⟩ hJ
  refine Wi.lssC (fun hlt => Wi.tru ?_) fun hge => Wi.fls ?_
  · have hix : i < m.length := by omega
    have hixx : i < x.length := by omega
    have hr := hM _ (List.getElem_mem hix)
    have h1 := hP i
    have h2 : (sumTo (fun i => x.getD i 0 * dot (m.getD i []) y) (i + 1)).natAbs ≤ (i + 1) * (X * (N * (M * Y))) := sumTo_abs fun j _ => hP j
    have h3 := abs_i64 h2 (le_small (show i + 1 ≤ m.length by omega) hs)
    have h4 := abs_i64 h1 (by have := le_small (show 1 ≤ m.length by omega) hs; omega)
    simp only [sumTo] at h3
    have e : x.getD i 0 * dot (m.getD i []) y = x[i] * dot m[i] y := by rw [getD_at hixx, getD_row hix]
    rw [e] at h3 h4
    have hs3 : m[i].length * (M * Y) < 9223372036854775808 := Nat.lt_of_le_of_lt (Nat.mul_le_mul_right _ hr.1.1) hs2
    refine Wl.at1H rfl hm hix fun w hw => Wl.atIntH hx hixx fun _ => Wi.callQ (fn67 hw hy hr.2 hr.1.2 hY hs3 ⟨.refl _, Wi.mul h4 (Wi.add h3 (Wi.add (by unfold I64; omega) (hJ _ _ hix ⟨rfl, ?_⟩)))⟩)
    simp only [sumTo]
    rw [e]
    rfl
  · have : i = m.length := by omega
    subst this
    exact hQ

/-- The slopes of a program at a point. -/
def slopesV (p : Prg) (x : List Int) : List Int := (List.range p.1.length).map fun i => p.2.1.getD i 0 * 1 + dot (p.1.getD i []) x

abbrev zFr : Frac := (0, 0)
def bendV (p : Prg) (u : List Int) : Int := formV p.1 u u
def slopeV (p : Prg) (x u : List Int) : Int := dot u (slopesV p x)
def twiceV (p : Prg) (x : List Int) : Int := formV p.1 x x + 2 * dot p.2.1 x

/-- The places of LeastAlong are told. -/
def laOK (p : Prg) (x u : List Int) : Prop := x.length = p.2.1.length ∧ u.length = p.2.1.length ∧ allUp 100 x = true ∧ allUp 100 u = true

noncomputable def laRes (p : Prg) (x u : List Int) : Frac × Frac × Int := open Classical in
  if IsPrg p then (if laOK p x u then (if 0 < bendV p u then
    (if (fracT (-slopeV p x u) (bendV p u)).2 = 0 ∧ (fracT (twiceV p x * bendV p u - slopeV p x u * slopeV p x u) (2 * bendV p u)).2 = 0 then
      ((fracT (-slopeV p x u) (bendV p u)).1, (fracT (twiceV p x * bendV p u - slopeV p x u * slopeV p x u) (2 * bendV p u)).1, 0) else (zFr, zFr, 3)) else (zFr, zFr, 5)) else (zFr, zFr, 2)) else (zFr, zFr, 1)

theorem mul5 {n N : Nat} (h : n ≤ 5) : n * N ≤ 5 * N := Nat.mul_le_mul_right _ h

end Go.Proofs.YtdchibdcfdbcpaaGreat
