/- Tables: the system E solved for n of its variables; steps; keys in order; ways back. No program here. -/
import Derived.Test.YtbcfknboheghkaaZabPmat
namespace Go.Ab

/-! ### Sums -/

theorem sum_pos0 {n : Nat} {f : Nat → Int} (h : ∀ i, i < n → 0 ≤ f i) : 0 ≤ sumTo n f := by
  induction n with
  | zero => exact Int.le_refl 0
  | succ n ih =>
    have h1 := ih fun i hi => h i (by omega)
    have h2 := h n (by omega)
    simp only [sumTo]
    omega

theorem pos_of_mul {a b : Int} (ha : 0 < a) (h : 0 < a * b) : 0 < b := by
  refine Classical.byContradiction fun g => ?_
  have := Int.mul_nonpos_of_nonneg_of_nonpos (show 0 ≤ a by omega) (show b ≤ 0 by omega)
  omega

/-- Numbers that hang on the variables of a list. -/
theorem sum_img {n N : Nat} {bs : Nat → Nat} (hi : Inj n bs) (hb : ∀ k, k < n → bs k < N) {f : Nat → Int} (hf : ∀ b, b < N → (∀ k, k < n → bs k ≠ b) → f b = 0) : sumTo N f = sumTo n fun k => f (bs k) := by
  have e : sumTo N f = sumTo N fun b => sumTo n fun k => if bs k = b then f b else 0 := sumTo_congr fun b hbN => by
    by_cases h : ∃ k, k < n ∧ bs k = b
    · obtain ⟨k, hk, rfl⟩ := h
      rw [sumTo_one hk fun i hin hne => if_neg fun g => hne (hi i k hin hk g), if_pos rfl]
    · rw [hf b hbN fun k hk g => h ⟨k, hk, g⟩, sumTo_zero fun k hk => if_neg fun g => h ⟨k, hk, g⟩]
  rw [e, sumTo_swap]
  refine sumTo_congr fun k hk => ?_
  rw [sumTo_one (hb k hk) fun b hbN hne => if_neg fun g => hne g.symm, if_pos rfl]

/-! ### Tables -/

def BM (E : Mat) (bs : Nat → Nat) : Mat := fun i k => E i (bs k)

theorem det_only {n : Nat} {A : Mat} {x : Nat → Int} (hA : det n A ≠ 0) (h : ∀ i, i < n → sumTo n (fun k => A i k * x k) = 0) : ∀ k, k < n → x k = 0 := fun k hk => by
  have h1 := det_told (n := n) (A := A) (y := x) hk
  have h2 : det n (ucol A k fun r => sumTo n fun c => x c * A r c) = det n (ucol A k fun _ => 0) := det_congr fun i j hi hj => by
    unfold ucol
    split
    · rw [← h i hi]
      exact sumTo_congr fun c _ => Int.mul_comm _ _
    · rfl
  rw [h2, det_col0 hk] at h1
  rcases Int.mul_eq_zero.1 h1.symm with g | g
  · exact g
  · exact absurd g hA

structure Tabl (n W : Nat) (E : Mat) (bs : Nat → Nat) (T : Mat) (d : Int) : Prop where
  pos : 0 < d
  dt : det n (BM E bs) = d ∨ det n (BM E bs) = -d
  eq : ∀ i c, i < n → c < W → sumTo n (fun k => E i (bs k) * T k c) = d * E i c
  lt : ∀ k, k < n → bs k < W

section
variable {n W : Nat} {E : Mat} {bs : Nat → Nat} {T : Mat} {d : Int}

theorem Tabl.ne (h : Tabl n W E bs T d) : det n (BM E bs) ≠ 0 := by
  have := h.pos
  rcases h.dt with e | e <;> omega

theorem Tabl.mul (h : Tabl n W E bs T d) {k c : Nat} (hk : k < n) (hc : c < W) : T k c * det n (BM E bs) = d * det n (ucol (BM E bs) k fun i => E i c) := by
  have h1 := det_told (n := n) (A := BM E bs) (y := fun k => T k c) hk
  have h2 : det n (ucol (BM E bs) k fun r => sumTo n fun j => T j c * BM E bs r j) = det n (ucol (BM E bs) k fun r => d * E r c + 0 * E r c) := det_congr fun i j hi hj => by
    unfold ucol
    split
    · show (sumTo n fun j => T j c * BM E bs i j) = d * E i c + 0 * E i c
      rw [Int.zero_mul, Int.add_zero, ← h.eq i c hi hc]
      exact sumTo_congr fun c _ => Int.mul_comm _ _
    · rfl
  rw [← h1, h2, det_lin hk]
  rw [Int.zero_mul, Int.add_zero]

/-- A number of a table is a determinant, up to its sign. -/
theorem Tabl.entry (h : Tabl n W E bs T d) {k c : Nat} (hk : k < n) (hc : c < W) : T k c = det n (ucol (BM E bs) k fun i => E i c) ∨ T k c = -(det n (ucol (BM E bs) k fun i => E i c)) := by
  have hm := h.mul hk hc
  have hd := h.pos
  rcases h.dt with e | e
  · left
    rw [e, Int.mul_comm] at hm
    exact Int.eq_of_mul_eq_mul_left (by omega) hm
  · right
    rw [e, Int.mul_neg, Int.mul_comm, ← Int.mul_neg] at hm
    have := Int.eq_of_mul_eq_mul_left (show d ≠ 0 by omega) hm
    omega

theorem Tabl.abs (h : Tabl n W E bs T d) (hn : n ≤ 5) (hE : ∀ i c, i < n → c < W → (E i c).natAbs ≤ 20) {k c : Nat} (hk : k < n) (hc : c < W) : (T k c).natAbs ≤ 384000000 := by
  have h1 := det_leib (n := n) (A := ucol (BM E bs) k fun i => E i c) (B := fun _ => 20) fun i j hi hj => by
    unfold ucol BM
    split
    · exact hE i c hi hc
    · exact hE i _ hi (h.lt j hj)
  have h2 : fact n * prodTo n (fun _ => 20) ≤ 384000000 := by
    have : n = 0 ∨ n = 1 ∨ n = 2 ∨ n = 3 ∨ n = 4 ∨ n = 5 := by omega
    rcases this with rfl | rfl | rfl | rfl | rfl | rfl <;> decide
  rcases h.entry hk hc with e | e <;> rw [e] <;> omega

theorem Tabl.dabs (h : Tabl n W E bs T d) (hn : n ≤ 5) (hE : ∀ i c, i < n → c < W → (E i c).natAbs ≤ 20) : d ≤ 384000000 := by
  have h1 := det_leib (n := n) (A := BM E bs) (B := fun _ => 20) fun i j hi hj => hE i _ hi (h.lt j hj)
  have h2 : fact n * prodTo n (fun _ => 20) ≤ 384000000 := by
    have : n = 0 ∨ n = 1 ∨ n = 2 ∨ n = 3 ∨ n = 4 ∨ n = 5 := by omega
    rcases this with rfl | rfl | rfl | rfl | rfl | rfl <;> decide
  have hd := h.pos
  rcases h.dt with e | e <;> omega

theorem Tabl.inj (h : Tabl n W E bs T d) : Inj n bs := fun i j hi hj e => by
  refine Classical.byContradiction fun hne => h.ne (det_same hi hj hne fun r => ?_)
  unfold BM
  rw [e]

/-- The columns of the variables that are solved for. -/
theorem Tabl.unit (h : Tabl n W E bs T d) {k j : Nat} (hk : k < n) (hj : j < n) : T k (bs j) = if k = j then d else 0 := by
  have := det_only (A := BM E bs) (x := fun k => T k (bs j) - if k = j then d else 0) h.ne fun i hi => by
    have e1 : sumTo n (fun k => BM E bs i k * (T k (bs j) - if k = j then d else 0)) = sumTo n (fun k => E i (bs k) * T k (bs j)) + sumTo n fun k => if k = j then -(E i (bs k) * d) else 0 := by
      rw [← sumTo_add]
      refine sumTo_congr fun k _ => ?_
      unfold BM
      rw [Int.mul_sub]
      by_cases e : k = j
      · rw [if_pos e, if_pos e]; omega
      · rw [if_neg e, if_neg e]; omega
    rw [e1, h.eq i _ hi (h.lt j hj), sumTo_one hj fun k _ hne => if_neg hne, if_pos rfl, Int.mul_comm d]
    omega
  have := this k hk
  omega

/-- Each row is told by its numbers at the first n places, if E begins with the unit. -/
theorem Tabl.told (h : Tabl n W E bs T d) (hnW : n ≤ W) (hE : ∀ i j, i < n → j < n → E i j = if i = j then 1 else 0) {k c : Nat} (hk : k < n) (hc : c < W) : T k c = sumTo n fun j => T k j * E j c := by
  have := det_only (A := BM E bs) (x := fun k => T k c - sumTo n fun j => T k j * E j c) h.ne fun i hi => by
    have e1 : sumTo n (fun k => BM E bs i k * (T k c - sumTo n fun j => T k j * E j c)) = sumTo n (fun k => E i (bs k) * T k c) + -(sumTo n fun j => E j c * sumTo n fun k => E i (bs k) * T k j) := by
      have e2 : (sumTo n fun j => E j c * sumTo n fun k => E i (bs k) * T k j) = sumTo n fun k => sumTo n fun j => E i (bs k) * (T k j * E j c) := by
        rw [sumTo_swap]
        refine sumTo_congr fun j _ => ?_
        rw [← sumTo_mul]
        refine sumTo_congr fun k _ => ?_
        ac_rfl
      rw [e2, ← sumTo_neg, ← sumTo_add]
      refine sumTo_congr fun k _ => ?_
      unfold BM
      rw [Int.mul_sub, ← sumTo_mul]
      omega
    have e3 : (sumTo n fun j => E j c * sumTo n fun k => E i (bs k) * T k j) = d * E i c := by
      have : (sumTo n fun j => E j c * sumTo n fun k => E i (bs k) * T k j) = sumTo n fun j => if j = i then d * E i c else 0 := sumTo_congr fun j hj => by
        rw [h.eq i j hi (by omega), hE i j hi hj]
        by_cases e : j = i
        · subst e; rw [if_pos rfl, if_pos rfl]; rw [Int.mul_one, Int.mul_comm]
        · rw [if_neg fun g => e g.symm, if_neg e, Int.mul_zero, Int.mul_zero]
      rw [this, sumTo_one hi fun j _ hne => if_neg hne, if_pos rfl]
    rw [e1, e3, h.eq i c hi hc]
    omega
  have := this k hk
  omega

def basP (bs : Nat → Nat) (r v : Nat) : Nat → Nat := fun k => if k = r then v else bs k

/-- A step. -/
theorem Tabl.step (h : Tabl n W E bs T d) {r v : Nat} (hr : r < n) (hv : v < W) (hp : 0 < T r v) :
    (∀ k c, k < n → c < W → k ≠ r → d ∣ T k c * T r v - T k v * T r c) ∧
      ∀ T' : Mat, (∀ c, c < W → T' r c = T r c) → (∀ k c, k < n → c < W → k ≠ r → d * T' k c = T k c * T r v - T k v * T r c) → Tabl n W E (basP bs r v) T' (T r v) := by
  have hd := h.pos
  have eB : BM E (basP bs r v) = ucol (BM E bs) r fun i => E i v := by
    funext i k
    unfold BM basP ucol
    by_cases e : k = r
    · rw [if_pos e, if_pos e]
    · rw [if_neg e, if_neg e]
  have hm := h.mul hr hv
  rw [← eB] at hm
  have hdet : det n (BM E (basP bs r v)) = T r v ∨ det n (BM E (basP bs r v)) = -(T r v) := by
    rcases h.dt with e | e
    · left
      rw [e, Int.mul_comm] at hm
      exact (Int.eq_of_mul_eq_mul_left (show d ≠ 0 by omega) hm).symm
    · right
      rw [e, Int.mul_neg, Int.mul_comm, ← Int.mul_neg] at hm
      have := Int.eq_of_mul_eq_mul_left (show d ≠ 0 by omega) hm
      omega
  have hne : det n (BM E (basP bs r v)) ≠ 0 := by rcases hdet with e | e <;> omega
  -- the numbers of the new table, as determinants
  obtain ⟨t, ht⟩ : ∃ t : Mat, ∀ i c, i < n → c < W → sumTo n (fun k => BM E (basP bs r v) i k * t k c) = T r v * E i c := by
    rcases hdet with e | e
    · refine ⟨fun k c => det n (ucol (BM E (basP bs r v)) k fun i => E i c), fun i c hi hc => ?_⟩
      have := cramer (n := n) (A := BM E (basP bs r v)) (q := fun i => E i c) hi
      rw [e] at this
      rw [this]
      exact Int.mul_comm _ _
    · refine ⟨fun k c => -(det n (ucol (BM E (basP bs r v)) k fun i => E i c)), fun i c hi hc => ?_⟩
      have := cramer (n := n) (A := BM E (basP bs r v)) (q := fun i => E i c) hi
      rw [e] at this
      have e2 : sumTo n (fun k => BM E (basP bs r v) i k * -(det n (ucol (BM E (basP bs r v)) k fun i => E i c))) = -(sumTo n fun k => BM E (basP bs r v) i k * det n (ucol (BM E (basP bs r v)) k fun i => E i c)) := by
        rw [← sumTo_neg]
        exact sumTo_congr fun k _ => Int.mul_neg _ _
      rw [e2, this, Int.mul_neg, Int.neg_neg]
      exact Int.mul_comm _ _
  have key : ∀ k c, k < n → c < W → (if k = r then d * T r c else T k c * T r v - T k v * T r c) = d * t k c := fun k c hk hc => by
    have := det_only (A := BM E (basP bs r v)) (x := fun k => (if k = r then d * T r c else T k c * T r v - T k v * T r c) - d * t k c) hne fun i hi => by
      have e1 : sumTo n (fun k => BM E (basP bs r v) i k * ((if k = r then d * T r c else T k c * T r v - T k v * T r c) - d * t k c)) =
          T r v * sumTo n (fun k => E i (bs k) * T k c) + -(T r c) * sumTo n (fun k => E i (bs k) * T k v) + sumTo n (fun k => if k = r then d * (E i v * T r c) else 0) + -d * sumTo n (fun k => BM E (basP bs r v) i k * t k c) := by
        rw [← sumTo_mul, ← sumTo_mul, ← sumTo_mul, ← sumTo_add, ← sumTo_add, ← sumTo_add]
        refine sumTo_congr fun k _ => ?_
        unfold BM basP
        by_cases e : k = r
        · subst e
          simp only [if_true]
          grind
        · simp only [if_neg e]
          grind
      rw [e1, h.eq i c hi hc, h.eq i v hi hv, sumTo_one hr fun k _ hne => if_neg hne, if_pos rfl, ht i c hi hc]
      grind
    have := this k hk
    omega
  refine ⟨fun k c hk hc hkr => ?_, fun T' h1 h2 => ?_⟩
  · have := key k c hk hc
    rw [if_neg hkr] at this
    exact ⟨_, this⟩
  · have eT : ∀ k c, k < n → c < W → T' k c = t k c := fun k c hk hc => by
      have := key k c hk hc
      by_cases e : k = r
      · subst e
        rw [if_pos rfl] at this
        rw [h1 c hc]
        exact Int.eq_of_mul_eq_mul_left (by omega) this
      · rw [if_neg e, ← h2 k c hk hc e] at this
        exact Int.eq_of_mul_eq_mul_left (by omega) this
    refine ⟨hp, hdet, fun i c hi hc => ?_, fun k hk => ?_⟩
    · rw [← ht i c hi hc]
      exact sumTo_congr fun k hk => by rw [eT k c hk hc]; rfl
    · unfold basP
      split
      · exact hv
      · exact h.lt k hk

end

/-! ### Keys in order -/

/-- The first different number is less. -/
def lexLt (m : Nat) (f g : Nat → Int) : Prop := ∃ j, j < m ∧ f j < g j ∧ ∀ i, i < j → f i = g i

section
variable {m : Nat} {f g h : Nat → Int}

theorem lexLt.irr (q : lexLt m f f) : False := by
  obtain ⟨j, _, h, _⟩ := q
  omega

theorem lexLt.trans (p : lexLt m f g) (q : lexLt m g h) : lexLt m f h := by
  obtain ⟨j, j1, j2, j3⟩ := p
  obtain ⟨k, k1, k2, k3⟩ := q
  rcases Nat.lt_trichotomy j k with e | e | e
  · exact ⟨j, j1, by have := k3 j e; omega, fun i hi => by rw [j3 i hi, k3 i (by omega)]⟩
  · subst e
    exact ⟨j, j1, by omega, fun i hi => by rw [j3 i hi, k3 i hi]⟩
  · exact ⟨k, k1, by have := j3 k e; omega, fun i hi => by rw [j3 i (by omega), k3 i hi]⟩

theorem lexLt.tot (m : Nat) (f g : Nat → Int) : lexLt m f g ∨ lexLt m g f ∨ ∀ j, j < m → f j = g j := by
  induction m with
  | zero => exact .inr (.inr fun j hj => by omega)
  | succ m ih =>
    rcases ih with ⟨j, a, b, c⟩ | ⟨j, a, b, c⟩ | e
    · exact .inl ⟨j, by omega, b, c⟩
    · exact .inr (.inl ⟨j, by omega, b, c⟩)
    · rcases Int.lt_trichotomy (f m) (g m) with q | q | q
      · exact .inl ⟨m, by omega, q, e⟩
      · exact .inr (.inr fun j hj => by
          by_cases c : j = m
          · subst c; exact q
          · exact e j (by omega))
      · exact .inr (.inl ⟨m, by omega, q, fun i hi => (e i hi).symm⟩)

theorem lexLt.mul {c : Int} (hc : 0 < c) (q : lexLt m f g) : lexLt m (fun i => c * f i) fun i => c * g i := by
  obtain ⟨j, a, b, e⟩ := q
  exact ⟨j, a, Int.mul_lt_mul_of_pos_left b hc, fun i hi => by dsimp only; rw [e i hi]⟩

theorem lexLt.div {c : Int} (hc : 0 < c) (q : lexLt m (fun i => c * f i) fun i => c * g i) : lexLt m f g := by
  obtain ⟨j, a, b, e⟩ := q
  refine ⟨j, a, Int.lt_of_mul_lt_mul_left b (by omega), fun i hi => ?_⟩
  exact Int.eq_of_mul_eq_mul_left (by omega) (e i hi)

theorem lexLt.congr {f' g' : Nat → Int} (q : lexLt m f g) (hf : ∀ i, i < m → f' i = f i) (hg : ∀ i, i < m → g' i = g i) : lexLt m f' g' := by
  obtain ⟨j, a, b, e⟩ := q
  exact ⟨j, a, by rw [hf j a, hg j a]; exact b, fun i hi => by rw [hf i (by omega), hg i (by omega), e i hi]⟩

/-- What is added on both sides. -/
theorem lexLt.add (a : Nat → Int) (q : lexLt m f g) : lexLt m (fun i => f i + a i) fun i => g i + a i := by
  obtain ⟨j, a1, b, e⟩ := q
  exact ⟨j, a1, by dsimp only; omega, fun i hi => by dsimp only; rw [e i hi]⟩

end

/-- The key of a row: the number on the right (at the place W), then the first n. -/
def keyF (W : Nat) (T : Mat) (k : Nat) : Nat → Int := fun j => if j = 0 then T k W else T k (j - 1)

abbrev lexPos (m : Nat) (f : Nat → Int) : Prop := lexLt m (fun _ => 0) f

/-- The row with the least key, divided by what is in the column v. -/
structure Least (n W : Nat) (T : Mat) (v r : Nat) : Prop where
  lt : r < n
  pos : 0 < T r v
  less : ∀ k, k < n → k ≠ r → 0 < T k v → lexLt (n + 1) (fun i => T k v * keyF W T r i) fun i => T r v * keyF W T k i

section
variable {n W : Nat} {E : Mat} {bs : Nat → Nat} {T : Mat} {d : Int}

/-- No two rows have the same key. -/
theorem Tabl.notie (h : Tabl n (W + 1) E bs T d) (hnW : n ≤ W) (hE : ∀ i j, i < n → j < n → E i j = if i = j then 1 else 0) {k r : Nat} (hk : k < n) (hr : r < n) (hkr : k ≠ r) {p q : Int} (hq : q ≠ 0)
    (ht : ∀ i, i < n + 1 → q * keyF W T r i = p * keyF W T k i) : False := by
  have e0 : ∀ j, j < n → q * T r j = p * T k j := fun j hj => by
    have := ht (j + 1) (by omega)
    unfold keyF at this
    rw [if_neg (by omega), if_neg (by omega)] at this
    exact this
  have e1 : ∀ c, c < W + 1 → q * T r c = p * T k c := fun c hc => by
    rw [h.told (by omega) hE hr hc, h.told (by omega) hE hk hc, ← sumTo_mul, ← sumTo_mul]
    refine sumTo_congr fun j hj => ?_
    rw [← Int.mul_assoc, e0 j hj, Int.mul_assoc]
  have e2 := e1 (bs r) (h.lt r hr)
  rw [h.unit hr hr, h.unit hk hr, if_pos rfl, if_neg hkr, Int.mul_zero] at e2
  have hd := h.pos
  rcases Int.mul_eq_zero.1 e2 with g | g
  · exact hq g
  · omega

/-- The step keeps all keys greater than 0, and leads back. -/
theorem Tabl.lexstep (h : Tabl n (W + 1) E bs T d) {r v : Nat} (hv : v < W + 1) (hl : Least n W T v r) (hpos : ∀ k, k < n → lexPos (n + 1) (keyF W T k)) (hnW : n ≤ W) {T' : Mat}
    (h1 : ∀ c, c < W + 1 → T' r c = T r c) (h2 : ∀ k c, k < n → c < W + 1 → k ≠ r → d * T' k c = T k c * T r v - T k v * T r c) :
    (∀ k, k < n → lexPos (n + 1) (keyF W T' k)) ∧ Least n W T' (bs r) r := by
  have hd := h.pos
  obtain ⟨hr, hp, hless⟩ := hl
  have kr : ∀ i, i < n + 1 → keyF W T' r i = keyF W T r i := fun i hi => by
    unfold keyF
    split
    · exact h1 W (by omega)
    · exact h1 (i - 1) (by omega)
  have kk : ∀ k, k < n → k ≠ r → ∀ i, i < n + 1 → d * keyF W T' k i = T r v * keyF W T k i + -(T k v * keyF W T r i) := fun k hk hkr i hi => by
    unfold keyF
    split
    · rw [h2 k W hk (by omega) hkr, Int.mul_comm (T k W)]; omega
    · rw [h2 k (i - 1) hk (by omega) hkr, Int.mul_comm (T k (i - 1))]; omega
  have pos' : ∀ k, k < n → lexPos (n + 1) (keyF W T' k) := fun k hk => by
    by_cases e : k = r
    · subst e
      exact (hpos k hk).congr (fun _ _ => rfl) kr
    · refine lexLt.div hd ?_
      have q1 : lexLt (n + 1) (fun _ => 0) fun i => T r v * keyF W T k i + -(T k v * keyF W T r i) := by
        rcases Int.lt_trichotomy 0 (T k v) with g | g | g
        · exact ((hless k hk e g).add fun i => -(T k v * keyF W T r i)).congr (fun i _ => by omega) fun i _ => rfl
        · rw [← g]
          exact ((hpos k hk).mul hp).congr (fun i _ => by simp) fun i _ => by simp
        · have a1 := ((hpos k hk).mul hp).add fun i => -(T k v) * keyF W T r i
          have a2 := (hpos r hr).mul (show 0 < -(T k v) by omega)
          exact lexLt.trans (a2.congr (fun i _ => by simp) fun i _ => rfl) (a1.congr (fun i _ => by omega) fun i _ => by rw [Int.neg_mul])
      exact q1.congr (fun i _ => by simp) (kk k hk e)
  refine ⟨pos', hr, ?_, fun k hk hkr hk0 => ?_⟩
  · rw [h1 _ (h.lt r hr), h.unit hr hr, if_pos rfl]
    exact hd
  · -- in the column of what left there is d in the row r, and less the old column elsewhere
    have c1 : T' r (bs r) = d := by rw [h1 _ (h.lt r hr), h.unit hr hr, if_pos rfl]
    have c2 : T' k (bs r) = -(T k v) := by
      have := h2 k (bs r) hk (h.lt r hr) hkr
      rw [h.unit hk hr, if_neg hkr, h.unit hr hr, if_pos rfl, Int.zero_mul, Int.zero_sub, Int.mul_comm (T k v), ← Int.mul_neg] at this
      exact Int.eq_of_mul_eq_mul_left (show d ≠ 0 by omega) this
    rw [c1, c2]
    have a1 := ((hpos k hk).mul hp).add fun i => -(T k v) * keyF W T r i
    exact a1.congr (fun i hi => by rw [kr i hi]; simp) fun i hi => by rw [kk k hk hkr i hi, Int.neg_mul]

/-- Tables for the same variables, in any order: what leaves is the same. -/
theorem Tabl.same {bs2 : Nat → Nat} {T2 : Mat} {d2 : Int} (h : Tabl n (W + 1) E bs T d) (h2 : Tabl n (W + 1) E bs2 T2 d2) (hs : ∀ b, (∃ k, k < n ∧ bs k = b) ↔ ∃ k, k < n ∧ bs2 k = b) (hnW : n ≤ W) {v r r2 : Nat} (hv : v < W + 1) (l1 : Least n W T v r) (l2 : Least n W T2 v r2) : bs r = bs2 r2 := by
  have hd := h.pos
  have hd2 := h2.pos
  -- the numbers by variables
  have num : ∀ k j, k < n → j < n → bs k = bs2 j → ∀ c, c < W + 1 → d2 * T k c = d * T2 j c := fun k j hk hj hkj c hc => by
    let V : Nat → Int := fun b => sumTo n fun j => if bs2 j = b then T2 j c else 0
    have V2 : ∀ j, j < n → V (bs2 j) = T2 j c := fun j hj => by
      show (sumTo n fun i => if bs2 i = bs2 j then T2 i c else 0) = _
      rw [sumTo_one hj fun i hi hne => if_neg fun g => hne (h2.inj i j hi hj g), if_pos rfl]
    have V0 : ∀ b, (∀ j, j < n → bs2 j ≠ b) → V b = 0 := fun b hb => sumTo_zero fun i hi => if_neg (hb i hi)
    have := det_only (A := BM E bs) (x := fun k => d2 * T k c - d * V (bs k)) h.ne fun i hi => by
      have e1 : sumTo n (fun k => BM E bs i k * (d2 * T k c - d * V (bs k))) = d2 * sumTo n (fun k => E i (bs k) * T k c) + -d * sumTo n fun k => E i (bs k) * V (bs k) := by
        rw [← sumTo_mul, ← sumTo_mul, ← sumTo_add]
        refine sumTo_congr fun k _ => ?_
        unfold BM
        grind
      have e2 : (sumTo n fun k => E i (bs k) * V (bs k)) = sumTo n fun j => E i (bs2 j) * T2 j c := by
        rw [← sum_img (N := W + 1) h.inj h.lt (f := fun b => E i b * V b) fun b _ hb => by
          rw [V0 b fun j hj g => by
            obtain ⟨k, hk, e⟩ := (hs b).2 ⟨j, hj, g⟩
            exact hb k hk e, Int.mul_zero]]
        rw [sum_img (N := W + 1) h2.inj h2.lt (f := fun b => E i b * V b) fun b _ hb => by rw [V0 b hb, Int.mul_zero]]
        exact sumTo_congr fun j hj => by rw [V2 j hj]
      rw [e1, e2, h.eq i c hi hc, h2.eq i c hi hc]
      grind
    have := this k hk
    rw [hkj, V2 j hj] at this
    omega
  refine Classical.byContradiction fun hne => ?_
  obtain ⟨k, hk, ek⟩ := (hs (bs2 r2)).2 ⟨r2, l2.lt, rfl⟩
  obtain ⟨j, hj, ej⟩ := (hs (bs r)).1 ⟨r, l1.lt, rfl⟩
  have hkr : k ≠ r := fun e => hne (by rw [← e, ek])
  have hjr : j ≠ r2 := fun e => hne (by rw [← ej, e])
  have n1 := num k r2 hk l2.lt ek
  have n2 := num r j l1.lt hj ej.symm
  have p1 : 0 < T k v := by
    have a := Int.mul_pos hd l2.pos
    rw [← n1 v hv] at a
    exact pos_of_mul hd2 a
  have p2 : 0 < T2 j v := by
    have a := Int.mul_pos hd2 l1.pos
    rw [n2 v hv] at a
    exact pos_of_mul hd a
  have a1 := l1.less k hk hkr p1
  have a2 := (l2.less j hj hjr p2).mul (Int.mul_pos hd hd)
  have kf : ∀ {a b : Nat}, (∀ c, c < W + 1 → d2 * T a c = d * T2 b c) → ∀ i, i < n + 1 → d2 * keyF W T a i = d * keyF W T2 b i := fun e i hi => by
    unfold keyF
    split
    · exact e W (by omega)
    · exact e _ (by omega)
  have a3 : lexLt (n + 1) (fun i => d2 * d2 * (T r v * keyF W T k i)) fun i => d2 * d2 * (T k v * keyF W T r i) := a2.congr
    (fun i hi => by
      rw [show d2 * d2 * (T r v * keyF W T k i) = d2 * T r v * (d2 * keyF W T k i) by ac_rfl, n2 v hv, kf n1 i hi]
      ac_rfl)
    fun i hi => by
      rw [show d2 * d2 * (T k v * keyF W T r i) = d2 * T k v * (d2 * keyF W T r i) by ac_rfl, n1 v hv, kf n2 i hi]
      ac_rfl
  exact (a1.trans (a3.div (Int.mul_pos hd2 hd2))).irr

/-- A column whose numbers in E are not less than 0, and not all 0, has a number greater than 0. -/
theorem Tabl.some (h : Tabl n W E bs T d) (hE : ∀ i c, i < n → c < W → 0 ≤ E i c) {v : Nat} (hv : v < W) (hne : ∃ i, i < n ∧ E i v ≠ 0) : ∃ k, k < n ∧ 0 < T k v := by
  refine Classical.byContradiction fun hno => ?_
  have hle : ∀ k, k < n → T k v ≤ 0 := fun k hk => by
    refine Classical.byContradiction fun g => hno ⟨k, hk, by omega⟩
  obtain ⟨i, hi, hi0⟩ := hne
  have e := h.eq i v hi hv
  have hd := h.pos
  have h1 : 0 ≤ sumTo n fun k => E i (bs k) * -(T k v) := sum_pos0 fun k hk => Int.mul_nonneg (hE i _ hi (h.lt k hk)) (by have := hle k hk; omega)
  have h2 : (sumTo n fun k => E i (bs k) * -(T k v)) = -(d * E i v) := by
    rw [← e, ← sumTo_neg]
    exact sumTo_congr fun k _ => Int.mul_neg _ _
  rw [h2] at h1
  have h3 := Int.mul_pos hd (show 0 < E i v by have := hE i v hi hv; omega)
  omega

end
end Go.Ab
