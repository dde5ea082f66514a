/- A linear congruence whose period is full: how long its draws can all be multiples of three. No model and no program here. -/
namespace Go.Ab

def itr {α : Type} (f : α → α) : Nat → α → α
  | 0, x => x
  | n + 1, x => itr f n (f x)

theorem itr_add {α : Type} (f : α → α) : ∀ (m n : Nat) (x : α), itr f (m + n) x = itr f n (itr f m x)
  | 0, n, x => by rw [Nat.zero_add]; rfl
  | m + 1, n, x => by rw [show m + 1 + n = (m + n) + 1 by omega]; exact itr_add f m n (f x)

theorem itr_succ {α : Type} (f : α → α) (m : Nat) (x : α) : itr f (m + 1) x = f (itr f m x) := itr_add f m 1 x

/-- One step (by choice: so that nobody unfolds it). -/
theorem lcg_ex : ∃ f : Nat → Nat, ∀ h, f h = (h * 6364136223846793005 + 1442695040888963407) % 18446744073709551616 := ⟨_, fun _ => rfl⟩
noncomputable def lcg : Nat → Nat := Classical.choose lcg_ex
theorem lcg_def (h : Nat) : lcg h = (h * 6364136223846793005 + 1442695040888963407) % 18446744073709551616 := Classical.choose_spec lcg_ex h

noncomputable def lcgN (n h : Nat) : Nat := itr lcg n h

theorem lcgN_add (m n h : Nat) : lcgN (m + n) h = lcgN n (lcgN m h) := itr_add lcg m n h
theorem lcgN_succ (m h : Nat) : lcgN (m + 1) h = lcg (lcgN m h) := itr_succ lcg m h
theorem lcgN_zero (h : Nat) : lcgN 0 h = h := rfl

/-- The factor and the addend of 2 ^ k steps, modulo 2 ^ 61. -/
def lcgP : Nat → Nat × Nat
  | 0 => (6364136223846793005 % 2305843009213693952, 1442695040888963407 % 2305843009213693952)
  | k + 1 => ((lcgP k).1 * (lcgP k).1 % 2305843009213693952, ((lcgP k).1 * (lcgP k).2 + (lcgP k).2) % 2305843009213693952)

theorem aff_mod {M a c x y : Nat} (h : x % M = y % M) : (a * x + c) % M = (a * y + c) % M := by
  rw [Nat.add_mod, Nat.mul_mod, h, ← Nat.mul_mod, ← Nat.add_mod]

theorem aff_two {M a c h : Nat} : (a * (a * h + c) + c) % M = (a * a % M * h + (a * c + c) % M) % M := by
  rw [Nat.add_mod (a * a % M * h), Nat.mul_mod (a * a % M), Nat.mod_mod, Nat.mod_mod, ← Nat.mul_mod, ← Nat.add_mod]
  congr 1
  rw [Nat.mul_add, Nat.mul_assoc, Nat.add_assoc]

theorem aff_pow (f : Nat → Nat) (M : Nat) (P : Nat → Nat × Nat) (h0 : ∀ h, f h % M = ((P 0).1 * h + (P 0).2) % M)
    (hs : ∀ k, P (k + 1) = ((P k).1 * (P k).1 % M, ((P k).1 * (P k).2 + (P k).2) % M)) : ∀ k h, itr f (2 ^ k) h % M = ((P k).1 * h + (P k).2) % M
  | 0, h => h0 h
  | k + 1, h => by
    rw [show 2 ^ (k + 1) = 2 ^ k + 2 ^ k by rw [Nat.pow_succ]; omega, itr_add, aff_pow f M P h0 hs k, aff_mod (aff_pow f M P h0 hs k h), aff_two, hs k]

theorem lcg_mod (h : Nat) : lcg h % 2305843009213693952 = ((6364136223846793005 % 2305843009213693952) * h + 1442695040888963407 % 2305843009213693952) % 2305843009213693952 := by
  rw [lcg_def]
  omega

theorem lcgP_ok (k h : Nat) : lcgN (2 ^ k) h % 2305843009213693952 = ((lcgP k).1 * h + (lcgP k).2) % 2305843009213693952 :=
  aff_pow lcg _ lcgP lcg_mod (fun _ => rfl) k h

attribute [irreducible] lcgN

/-- From 4 steps on: factor 1 and an odd addend, as far as told. -/
theorem lcgP_tab : ((List.range 59).all fun k => decide (k < 2) || (decide ((lcgP k).1 % 2 ^ (k + 1) = 1) && decide ((lcgP k).2 % 2 ^ (k + 1) = 2 ^ k))) = true := by decide +kernel

theorem lcgP_at {k : Nat} (h2 : 2 ≤ k) (hk : k < 59) : (lcgP k).1 % 2 ^ (k + 1) = 1 ∧ (lcgP k).2 % 2 ^ (k + 1) = 2 ^ k := by
  have := List.all_eq_true.1 lcgP_tab k (by simpa using hk)
  simp only [Bool.or_eq_true, Bool.and_eq_true, decide_eq_true_eq] at this
  omega

theorem lcgP_31 : lcgP 31 = (1313830298277904385, 444639764230963200) := by decide +kernel
theorem lcgP_58 : lcgP 58 = (1152921504606846977, 1441151880758558720) := by decide +kernel

theorem pow_dvd61 {k : Nat} (hk : k < 59) : 2 ^ (k + 1) ∣ 2305843009213693952 := by
  rw [show 2305843009213693952 = 2 ^ 61 from rfl]
  exact Nat.pow_dvd_pow 2 (by omega)

theorem flip_mod {m a c h q : Nat} (h1 : a % m = 1) (h2 : c % m = q) : (a * h + c) % m = (h + q) % m := by
  rw [Nat.add_mod, Nat.mul_mod, h1, Nat.one_mul, Nat.mod_mod, h2, Nat.mod_add_mod]

/-- 2 ^ k steps change bit k, and no bit below. -/
theorem lcg_flip {k : Nat} (h2 : 2 ≤ k) (hk : k < 59) (h : Nat) : lcgN (2 ^ k) h % 2 ^ (k + 1) = (h + 2 ^ k) % 2 ^ (k + 1) := by
  have e := congrArg (· % 2 ^ (k + 1)) (lcgP_ok k h)
  simp only [Nat.mod_mod_of_dvd _ (pow_dvd61 hk)] at e
  obtain ⟨g1, g2⟩ := lcgP_at h2 hk
  rw [e, flip_mod g1 g2]

/-- By steps of four, all that has the same two lowest bits is met. -/
theorem lcg_hit : ∀ (d : Nat) (h t : Nat), d ≤ 56 → h % 4 = t % 4 → ∃ i, i < 2 ^ d ∧ lcgN (4 * i) h % 2 ^ (d + 2) = t % 2 ^ (d + 2)
  | 0, h, t, _, e => ⟨0, by decide, by rw [Nat.mul_zero, lcgN_zero]; exact e⟩
  | d + 1, h, t, hd, e => by
    obtain ⟨i, hi, g⟩ := lcg_hit d h t (by omega) e
    have hp : 2 ^ (d + 1) = 2 ^ d * 2 := Nat.pow_succ 2 d
    have hp2 : 2 ^ (d + 2) = 4 * 2 ^ d := by rw [Nat.pow_succ, Nat.pow_succ]; omega
    have hp3 : 2 ^ (d + 1 + 2) = 2 * 2 ^ (d + 2) := by rw [show d + 1 + 2 = (d + 2) + 1 by omega, Nat.pow_succ]; omega
    by_cases g2 : lcgN (4 * i) h % 2 ^ (d + 1 + 2) = t % 2 ^ (d + 1 + 2)
    · exact ⟨i, by omega, g2⟩
    · refine ⟨i + 2 ^ d, by omega, ?_⟩
      rw [show 4 * (i + 2 ^ d) = 4 * i + 2 ^ (d + 2) by omega, lcgN_add]
      have f := lcg_flip (k := d + 2) (by omega) (by omega) (lcgN (4 * i) h)
      rw [show d + 2 + 1 = d + 1 + 2 by omega] at f
      rw [f]
      generalize lcgN (4 * i) h = x at g g2 ⊢
      rw [hp3] at g2 ⊢
      have hm : 0 < 2 ^ (d + 2) := Nat.two_pow_pos _
      generalize 2 ^ (d + 2) = m at g g2 hm ⊢
      have b1 : x % (2 * m) = x % m + m * (x / m % 2) := by rw [Nat.mul_comm 2 m, Nat.mod_mul]
      have b2 : t % (2 * m) = t % m + m * (t / m % 2) := by rw [Nat.mul_comm 2 m, Nat.mod_mul]
      have b3 : (x + m) % (2 * m) = x % m + m * ((x / m + 1) % 2) := by
        rw [Nat.mul_comm 2 m, Nat.mod_mul, Nat.add_mod_right, Nat.add_div_right _ hm]
      rw [b3, b2, g]
      rw [b1, b2, g] at g2
      rcases Nat.mod_two_eq_zero_or_one (x / m) with c1 | c1 <;> rcases Nat.mod_two_eq_zero_or_one (t / m) with c2 | c2
      · rw [c1, c2] at g2; exact absurd rfl g2
      · rw [c2, show (x / m + 1) % 2 = 1 by omega]
      · rw [c2, show (x / m + 1) % 2 = 0 by omega]
      · rw [c1, c2] at g2; exact absurd rfl g2

/-- What is drawn of a state. -/
def lcgY (h : Nat) : Nat := h / 2147483648 % 1073741824

theorem lcgY_61 (h : Nat) : lcgY h = h % 2305843009213693952 / 2147483648 := by unfold lcgY; omega
theorem lcgY_lt (h : Nat) : lcgY h < 1073741824 := by unfold lcgY; omega

theorem shape61 {n r : Nat} (h : r < 2147483648) : (2147483648 * n + r) % 2305843009213693952 / 2147483648 = n % 1073741824 := by omega

/-- 2 ^ 31 steps add to what is drawn a number that the low bits tell. -/
theorem lcg_31 (h : Nat) : lcgY (lcgN (2 ^ 31) h) = (lcgY h + (611799908 * (h % 268435456) + 207051525)) % 1073741824 := by
  have e := lcgP_ok 31 h
  rw [lcgP_31] at e
  rw [lcgY_61, e]
  have e2 : 1313830298277904385 * h + 444639764230963200 = 2147483648 * (h / 2147483648 + (611799908 * h + 207051525)) + h % 2147483648 := by omega
  show (1313830298277904385 * h + 444639764230963200) % _ / _ = _
  rw [e2, shape61 (Nat.mod_lt _ (by decide))]
  unfold lcgY
  clear e e2
  omega

theorem lcg_31_low (h : Nat) : lcgN (2 ^ 31) h % 268435456 = h % 268435456 := by
  have e := lcgP_ok 31 h
  rw [lcgP_31] at e
  simp only at e
  omega

theorem lcg_58 (h : Nat) : lcgY (lcgN (2 ^ 58) h) = (lcgY h + (536870912 * (h % 2) + 671088640)) % 1073741824 ∧ lcgN (2 ^ 58) h % 2 = h % 2 := by
  have e := lcgP_ok 58 h
  rw [lcgP_58] at e
  have e : lcgN (2 ^ 58) h % 2305843009213693952 = (1152921504606846977 * h + 1441151880758558720) % 2305843009213693952 := e
  refine ⟨?_, by omega⟩
  rw [lcgY_61, e]
  have e2 : 1152921504606846977 * h + 1441151880758558720 = 2147483648 * (h / 2147483648 + (536870912 * h + 671088640)) + h % 2147483648 := by omega
  rw [e2, shape61 (Nat.mod_lt _ (by decide))]
  unfold lcgY
  clear e e2
  omega

theorem run_r (D : Nat) : ∃ r, r < 32 ∧ r % 3 ≠ 0 ∧ r % 16 = D % 16 ∧ (D % 2 = 1 → True) := by
  by_cases g : D % 16 % 3 = 0
  · exact ⟨D % 16 + 16, by omega, by omega, by omega, fun _ => trivial⟩
  · exact ⟨D % 16, by omega, g, by omega, fun _ => trivial⟩

theorem run_t (h r : Nat) (hr : r < 32) (hr16 : r % 16 = (611799908 * h + 207051525) % 16) : ∃ t, h % 4 = t % 4 ∧ (611799908 * t + 207051525) % 1073741824 = r := by
  have e : ∀ z, 611799908 * (h + 4 * (18180969 * z)) + 207051525 = (611799908 * h + 207051525) + 16 * z + 1073741824 * (41436833 * z) := fun z => by omega
  generalize 611799908 * h + 207051525 = D at hr16 e
  obtain ⟨z, hz⟩ : ∃ z, r + 1073741824 - D % 1073741824 = 16 * z := ⟨(r + 1073741824 - D % 1073741824) / 16, by omega⟩
  refine ⟨h + 4 * (18180969 * z), by omega, ?_⟩
  rw [e, Nat.add_mul_mod_self_left]
  clear e
  omega

theorem add3 {a r b : Nat} (e : b = a + r) (h1 : a % 3 = 0) (h2 : b % 3 = 0) : r % 3 = 0 := by omega

theorem m_sub {y r : Nat} (hy : y < 1073741824) (hr : r < 32) (g : ¬ y + r < 1073741824) : y + r - 1073741824 < 1073741824 ∧ y + r - 1073741824 + r < 1073741824 := by omega

theorem run_end {y y1 y2 r D : Nat} (hy : y < 1073741824) (hD : D % 1073741824 = r) (hr : r < 32) (hr3 : r % 3 ≠ 0) (e1 : y1 = (y + D) % 1073741824) (e2 : y2 = (y1 + D) % 1073741824) (z0 : y % 3 = 0) (z1 : y1 % 3 = 0) (z2 : y2 % 3 = 0) : False := by
  rw [← Nat.add_mod_mod, hD] at e1 e2
  by_cases g : y + r < 1073741824
  · rw [Nat.mod_eq_of_lt g] at e1
    exact hr3 (add3 e1 z0 z1)
  · have h1 : y1 = y + r - 1073741824 := by rw [e1, Nat.mod_eq_sub_mod (Nat.le_of_not_lt g), Nat.mod_eq_of_lt (m_sub hy hr g).1]
    rw [Nat.mod_eq_of_lt (by rw [h1]; exact (m_sub hy hr g).2)] at e2
    exact hr3 (add3 e2 z1 z2)

/-- Draws by steps of four that are all multiples of three: not more than so many. -/
theorem lcg_run (h : Nat) : ∃ i, i ≤ 1140850688 ∧ lcgY (lcgN (4 * i) h) % 3 ≠ 0 := by
  refine Classical.byContradiction fun hno => ?_
  have all : ∀ i, i ≤ 1140850688 → lcgY (lcgN (4 * i) h) % 3 = 0 := fun i hi => Classical.byContradiction fun g => hno ⟨i, hi, g⟩
  obtain ⟨r, hr, hr3, hr16, -⟩ := run_r (611799908 * h + 207051525)
  obtain ⟨t, ht4, ht⟩ := run_t h r hr hr16
  obtain ⟨i, hi, hit⟩ := lcg_hit 26 h t (by decide) ht4
  have hi : i < 67108864 := hi
  have hit : lcgN (4 * i) h % 268435456 = t % 268435456 := hit
  have z0 := all i (Nat.le_of_lt (Nat.lt_of_lt_of_le hi (by decide)))
  have z1 := all (i + 536870912) (Nat.le_trans (Nat.add_le_add_right (Nat.le_of_lt hi) _) (by decide))
  have z2 := all (i + 1073741824) (Nat.add_le_add_right (Nat.le_of_lt hi) 1073741824)
  have s1 : 4 * (i + 536870912) = 4 * i + 2 ^ 31 := by rw [Nat.mul_add]
  have s2 : 4 * (i + 1073741824) = 4 * i + 2 ^ 31 + 2 ^ 31 := by rw [Nat.mul_add, Nat.add_assoc]
  rw [s1, lcgN_add] at z1
  rw [s2, lcgN_add, lcgN_add] at z2
  have e1 := lcg_31 (lcgN (4 * i) h)
  have e2 := lcg_31 (lcgN (2 ^ 31) (lcgN (4 * i) h))
  rw [lcg_31_low, hit] at e2
  rw [hit] at e1
  refine run_end (lcgY_lt (lcgN (4 * i) h)) ?_ hr hr3 e1 e2 z0 z1 z2
  clear e1 e2 z0 z1 z2 all hno s1 s2 hit
  omega

/-- Eight draws that lie so far apart. -/
theorem eight_tab : ((List.range 8).all fun a => (List.range 2).all fun d => (List.range 3).all fun r => (List.range 8).all fun b => (List.range 2).all fun e => (List.range 3).all fun s =>
    (List.range 8).any fun j => decide ((2 * ((a + j * (5 + 4 * d)) % 8) + r) % 3 ≠ 0) && decide ((2 * ((b + j * (5 + 4 * e)) % 8) + s) % 3 ≠ 0)) = true := by decide +kernel

theorem lcg_58n : ∀ (j h : Nat), lcgY (lcgN (j * 2 ^ 58) h) = (lcgY h + j * (536870912 * (h % 2) + 671088640)) % 1073741824 ∧ lcgN (j * 2 ^ 58) h % 2 = h % 2
  | 0, h => by
    rw [Nat.zero_mul, Nat.zero_mul, lcgN_zero, Nat.add_zero, Nat.mod_eq_of_lt (lcgY_lt h)]
    exact ⟨rfl, rfl⟩
  | j + 1, h => by
    have e : lcgN ((j + 1) * 2 ^ 58) h = lcgN (2 ^ 58) (lcgN (j * 2 ^ 58) h) := by
      rw [Nat.add_mul, Nat.one_mul, lcgN_add]
    obtain ⟨g1, g2⟩ := lcg_58n j h
    obtain ⟨g3, g4⟩ := lcg_58 (lcgN (j * 2 ^ 58) h)
    rw [e, g3, g4, g2, g1]
    refine ⟨?_, rfl⟩
    rw [Nat.mod_add_mod, Nat.add_mul, Nat.one_mul, Nat.add_assoc]

theorem two_end {y j d : Nat} (hd : d = 0 ∨ d = 1) (h : (2 * ((y / 134217728 + j * (5 + 4 * d)) % 8) + y % 134217728 % 3) % 3 ≠ 0) : (y + j * (536870912 * d + 671088640)) % 1073741824 % 3 ≠ 0 := by
  have e : y + j * (536870912 * d + 671088640) = 134217728 * (y / 134217728 + j * (5 + 4 * d)) + y % 134217728 := by
    rcases hd with rfl | rfl <;> omega
  rw [e]
  generalize y / 134217728 + j * (5 + 4 * d) = n at h ⊢
  have hlt : y % 134217728 < 134217728 := Nat.mod_lt _ (by decide)
  generalize y % 134217728 = r at h hlt ⊢
  have e2 : (134217728 * n + r) % 1073741824 = 134217728 * (n % 8) + r := by omega
  rw [e2]
  generalize n % 8 = m at h ⊢
  omega

/-- Of any two draws, somewhere in a whole period neither is a multiple of three. -/
theorem lcg_two (x y : Nat) : ∃ j, j < 8 ∧ lcgY (lcgN (j * 2 ^ 58) x) % 3 ≠ 0 ∧ lcgY (lcgN (j * 2 ^ 58) y) % 3 ≠ 0 := by
  have hx := lcgY_lt x
  have hy := lcgY_lt y
  have := eight_tab
  simp only [List.all_eq_true, List.any_eq_true, List.mem_range, Bool.and_eq_true, decide_eq_true_eq] at this
  obtain ⟨j, hj, h1, h2⟩ := this (lcgY x / 134217728) (by omega) (x % 2) (by omega) (lcgY x % 134217728 % 3) (by omega) (lcgY y / 134217728) (by omega) (y % 2) (by omega) (lcgY y % 134217728 % 3) (by omega)
  refine ⟨j, hj, ?_, ?_⟩
  · rw [(lcg_58n j x).1]
    exact two_end (Nat.mod_two_eq_zero_or_one x) h1
  · rw [(lcg_58n j y).1]
    exact two_end (Nat.mod_two_eq_zero_or_one y) h2

/-! ### A loop that goes on while such draws are multiples of three -/

def Zz (g e : Nat) : Prop := lcgY (lcgN (e + 1) g) % 3 = 0

theorem Zz_at (g e : Nat) : Zz g e = (lcgY (lcg (lcgN e g)) % 3 = 0) := by unfold Zz; rw [lcgN_succ]

/-- Of two draws in turn one at least was looked at, and was a multiple of three. -/
def Wm (g0 m : Nat) : Prop := ∀ e, e % 2 = 0 → e + 2 < m → Zz g0 e ∨ Zz g0 (e + 2)

theorem Wm_bound {g0 m : Nat} (h : Wm g0 m) : m ≤ 2305843009213693956 := by
  refine Classical.byContradiction fun hm => ?_
  obtain ⟨j, hj, h1, h2⟩ := lcg_two (lcgN 1 g0) (lcgN 3 g0)
  rw [← lcgN_add] at h1 h2
  have e1 : 1 + j * 2 ^ 58 = j * 2 ^ 58 + 1 := Nat.add_comm _ _
  have e2 : 3 + j * 2 ^ 58 = j * 2 ^ 58 + 2 + 1 := by rw [Nat.add_comm]
  rw [e1] at h1
  rw [e2] at h2
  have hb : j * 2 ^ 58 ≤ 7 * 2 ^ 58 := Nat.mul_le_mul_right _ (by omega)
  have hev : j * 2 ^ 58 % 2 = 0 := by
    have : j * 2 ^ 58 = 2 * (j * 2 ^ 57) := by rw [show (2 : Nat) ^ 58 = 2 * 2 ^ 57 from rfl]; rw [Nat.mul_left_comm]
    rw [this]
    exact Nat.mul_mod_right 2 _
  obtain ⟨e, he⟩ : ∃ e, e = j * 2 ^ 58 := ⟨_, rfl⟩
  rw [← he] at h1 h2 hb hev
  have hb2 : e ≤ 2017612633061982208 := hb
  rcases h e hev (by omega) with g | g
  · exact h1 g
  · exact h2 g

structure RunOK (B t g m : Nat) : Prop where
  even : m % 2 = 0
  far : ∃ g0, g = lcgN m g0 ∧ Wm g0 m
  near : ∃ g1 k l1, g = lcgN (4 * k) g1 ∧ (∀ i, i < k → Zz g1 (4 * i)) ∧ t ≤ l1 + k ∧ l1 ≤ B

theorem RunOK.start {B t g : Nat} (h : t ≤ B) : RunOK B t g 0 :=
  ⟨rfl, ⟨g, (lcgN_zero g).symm, fun e _ h => by omega⟩, ⟨g, 0, t, (lcgN_zero g).symm, fun i h => by omega, by omega, h⟩⟩

theorem RunOK.len {B t g m : Nat} (h : RunOK B t g m) : t ≤ B + 1140850688 := by
  obtain ⟨g1, k, l1, h1, h2, h3, h4⟩ := h.near
  obtain ⟨i, hi, hz⟩ := lcg_run (lcgN 1 g1)
  have : k ≤ i := Nat.le_of_not_lt fun hlt => by
    have := h2 i hlt
    unfold Zz at this
    rw [Nat.add_comm, lcgN_add] at this
    exact hz this
  exact Nat.le_trans h3 (Nat.add_le_add h4 (Nat.le_trans this hi))

theorem RunOK.bound {B t g m : Nat} (h : RunOK B t g m) : m ≤ 2305843009213693956 := let ⟨_, _, w⟩ := h.far; Wm_bound w

theorem Wm_go {g0 m : Nat} (hm : m % 2 = 0) (w : Wm g0 m) (z : Zz g0 m) : Wm g0 (m + 4) ∧ Wm g0 (m + 2) := by
  constructor
  · intro e he hlt
    by_cases h1 : e + 2 < m
    · exact w e he h1
    · by_cases h2 : e + 2 = m
      · exact .inr (h2 ▸ z)
      · have : e = m := by omega
        exact .inl (this ▸ z)
  · intro e he hlt
    by_cases h1 : e + 2 < m
    · exact w e he h1
    · have h2 : e + 2 = m := by omega
      exact .inr (h2 ▸ z)

theorem RunOK.four {B t t' g m : Nat} (h : RunOK B t g m) (z : lcgY (lcg g) % 3 = 0) (ht : t' ≤ t + 1) : RunOK B t' (lcgN 4 g) (m + 4) := by
  obtain ⟨he, ⟨g0, h1, w⟩, ⟨g1, k, l1, h2, h3, h4, h5⟩⟩ := h
  refine ⟨by omega, ⟨g0, by rw [lcgN_add, ← h1], (Wm_go he w (by rw [Zz_at, ← h1]; exact z)).1⟩, ⟨g1, k + 1, l1, by rw [Nat.mul_add, lcgN_add, ← h2], fun i hi => ?_, by omega, h5⟩⟩
  by_cases e : i = k
  · rw [e, Zz_at, ← h2]; exact z
  · exact h3 i (by omega)

theorem RunOK.two {B t g m : Nat} (h : RunOK B t g m) (z : lcgY (lcg g) % 3 = 0) (hB : 1 ≤ B) : RunOK B 1 (lcgN 2 g) (m + 2) := by
  obtain ⟨he, ⟨g0, h1, w⟩, _⟩ := h
  exact ⟨by omega, ⟨g0, by rw [lcgN_add, ← h1], (Wm_go he w (by rw [Zz_at, ← h1]; exact z)).2⟩, ⟨lcgN 2 g, 0, 1, (lcgN_zero _).symm, fun i h => by omega, by omega, hB⟩⟩

end Go.Ab
