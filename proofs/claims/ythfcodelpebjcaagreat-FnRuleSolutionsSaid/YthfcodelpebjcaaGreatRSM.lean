/- Runs of Murty's problems; solutions by sets fulfil what a solution must. No condition. -/
import Derived.Test.YthfcodelpebjcaaGreatSR3
import Derived.Test.YthfcodelpebjcaaGreatSR4
import Derived.Test.YthfcodelpebjcaaGreatY0
import Derived.Test.YthfcodelpebjcaaGreatGDR
import Derived.Test.YthfcodelpebjcaaGreatZabG9
namespace Go.Proofs.YthfcodelpebjcaaGreat
open Go.Ab

/-! ### Murty's problems -/

theorem det_tri : ∀ {n : Nat} {A : Mat}, (∀ i j, i < n → j < i → A i j = 0) → (∀ i, i < n → (A i i).natAbs = 1) → (det n A).natAbs = 1
  | 0, _, _, _ => rfl
  | n + 1, A, h1, h2 => by
    rw [det_first fun i hi => h1 (i + 1) 0 (by omega) (by omega), Int.natAbs_mul, h2 0 (by omega)]
    have := det_tri (n := n) (A := fun i j => A (i + 1) (j + 1)) (fun i j hi hj => h1 _ _ (by omega) (by omega)) fun i hi => h2 _ (by omega)
    rw [this]

/-- What the numbers from the last on add up to, those of the set. -/
def triS (n : Nat) (q : List Int) (s : Nat) : Nat → Int
  | 0 => 0
  | j + 1 => if s.testBit (n - 1 - j) then triS n q s j + -(q.getD (n - 1 - j) 0 + 2 * triS n q s j) else triS n q s j
def triY (n : Nat) (q : List Int) (s : Nat) (i : Nat) : Int := if s.testBit i then -(q.getD i 0 + 2 * triS n q s (n - 1 - i)) else q.getD i 0 + 2 * triS n q s (n - 1 - i)

theorem sum_two (f : Nat → Int) : ∀ n, sumTo f n = Go.Ab.sumTo n f
  | 0 => rfl
  | n + 1 => by
    show sumTo f n + f n = Go.Ab.sumTo n f + f n
    rw [sum_two f n]

theorem triS_sum {n : Nat} {q : List Int} {s : Nat} : ∀ j, j ≤ n → Go.Ab.sumTo n (fun c => if n ≤ c + j ∧ s.testBit c = true then triY n q s c else 0) = triS n q s j
  | 0, _ => Go.Ab.sumTo_zero fun c hc => if_neg fun g => by omega
  | j + 1, hj => by
    have ih := triS_sum (n := n) (q := q) (s := s) j (by omega)
    have e : Go.Ab.sumTo n (fun c => if n ≤ c + (j + 1) ∧ s.testBit c = true then triY n q s c else 0) = Go.Ab.sumTo n (fun c => (if n ≤ c + j ∧ s.testBit c = true then triY n q s c else 0) + if c = n - 1 - j ∧ s.testBit c = true then triY n q s c else 0) := Go.Ab.sumTo_congr fun c hc => by
      by_cases hb : s.testBit c = true
      · by_cases g : n ≤ c + j
        · rw [if_pos ⟨by omega, hb⟩, if_pos ⟨g, hb⟩, if_neg (by omega), Int.add_zero]
        · by_cases g2 : c = n - 1 - j
          · rw [if_pos ⟨by omega, hb⟩, if_neg fun k => g k.1, if_pos ⟨g2, hb⟩, Int.zero_add]
          · rw [if_neg (by omega), if_neg fun k => g k.1, if_neg fun k => g2 k.1]; rfl
      · rw [if_neg fun k => hb k.2, if_neg fun k => hb k.2, if_neg fun k => hb k.2]; rfl
    rw [e, Go.Ab.sumTo_add, ih, Go.Ab.sumTo_one (c := n - 1 - j) (by omega) fun i _ hi => if_neg fun g => hi g.1]
    have e2 : triS n q s (j + 1) = if s.testBit (n - 1 - j) then triS n q s j + -(q.getD (n - 1 - j) 0 + 2 * triS n q s j) else triS n q s j := rfl
    rw [e2]
    by_cases hb : s.testBit (n - 1 - j) = true
    · rw [if_pos ⟨rfl, hb⟩, if_pos hb]
      unfold triY
      rw [if_pos hb, show n - 1 - (n - 1 - j) = j by omega]
    · rw [if_neg fun g => hb g.2, if_neg hb, Int.add_zero]

theorem muM_at {n r c : Nat} (hr : r < n) (hc : c < n) : mAt (muP n).1 r c = if c < r then 0 else if c = r then 1 else 2 := by
  unfold muP
  rw [mAt_at (by simpa using hr) (by simpa [muRow] using hc)]
  simp [muRow]

/-- The numbers that the equations of a set of Murty's matrix have. -/
theorem tri_row {n : Nat} {q : List Int} {s r : Nat} (hr : r < n) : Go.Ab.sumTo n (fun c => mAt (colL n (muP n).1 s) r c * triY n q s c) = q.getD r 0 := by
  have hs := triS_sum (n := n) (q := q) (s := s) (n - 1 - r) (by omega)
  have e : Go.Ab.sumTo n (fun c => mAt (colL n (muP n).1 s) r c * triY n q s c) = Go.Ab.sumTo n (fun c => (if c = r then q.getD r 0 + 2 * triS n q s (n - 1 - r) else 0) + (-2) * (if n ≤ c + (n - 1 - r) ∧ s.testBit c = true then triY n q s c else 0)) := Go.Ab.sumTo_congr fun c hc => by
    rw [colL_at hr hc]
    unfold colE
    rw [muM_at hr hc]
    rcases Nat.lt_trichotomy c r with g | g | g
    · have e1 : ¬ n ≤ c + (n - 1 - r) := by omega
      have e2 : ¬ c = r := by omega
      have e3 : ¬ r = c := by omega
      cases hb : s.testBit c <;> simp only [g, e1, e2, e3, if_true, if_false, false_and, Bool.false_eq_true] <;> omega
    · subst g
      have e1 : ¬ n ≤ c + (n - 1 - c) := by omega
      have e2 : ¬ c < c := by omega
      unfold triY
      cases hb : s.testBit c <;> simp only [e1, e2, if_true, if_false, false_and, Bool.false_eq_true] <;> omega
    · have e1 : n ≤ c + (n - 1 - r) := by omega
      have e2 : ¬ c = r := by omega
      have e3 : ¬ r = c := by omega
      have e4 : ¬ c < r := by omega
      cases hb : s.testBit c <;> simp only [e1, e2, e3, e4, if_true, if_false, true_and, Bool.false_eq_true] <;> omega
  rw [e, Go.Ab.sumTo_add, Go.Ab.sumTo_mul, hs, Go.Ab.sumTo_one hr fun i _ hi => if_neg hi, if_pos rfl]
  omega

/-- Numbers that fulfil equations are the only ones. -/
theorem solve_only {n : Nat} {rows : List (List Int)} {q : List Int} {y : Nat → Int} (hs : Sq n rows) (h : ∀ r, r < n → Go.Ab.sumTo n (fun c => mAt rows r c * y c) = q.getD r 0) {k : Nat} (hk : k < n) : (solveL n rows q).getD k 0 = y k * det n (mAt rows) := by
  rw [atD (by rw [solveL_len]; exact hk), solveL_at]
  have e : det n (mAt (putCol k q rows)) = det n (ucol (mAt rows) k fun r => Go.Ab.sumTo n fun c => y c * mAt rows r c) := det_congr fun r c hr hc => by
    rw [putCol_at hs hr hc]
    unfold ucol
    split
    · rw [← h r hr]
      exact Go.Ab.sumTo_congr fun c _ => Int.mul_comm _ _
    · rfl
  rw [e, det_col_sum hk n y fun c r => mAt rows r c, Go.Ab.sumTo_one hk fun c hc hck => by
    rw [det_same hc hk hck fun r => by
      unfold ucol
      rw [if_pos rfl, if_neg hck], Int.mul_zero], ucol_self]

theorem mu_det {n s : Nat} : (det n (mAt (colL n (muP n).1 s))).natAbs = 1 := det_tri (fun i j hi hj => by
  rw [colL_at hi (by omega)]
  unfold colE
  rw [muM_at hi (by omega), if_pos hj, if_neg (show ¬ i = j by omega)]
  split <;> rfl) fun i hi => by
  rw [colL_at hi hi]
  unfold colE
  rw [muM_at hi hi, if_neg (Nat.lt_irrefl i), if_pos rfl, if_pos rfl]
  split <;> rfl

theorem mu_pt {n s : Nat} {q : List Int} : ptOf n ((muP n).1, q) s = (List.range n).map (triY n q s) := by
  have hD := mu_det (n := n) (s := s)
  apply List.ext_getElem
  · rw [ptOf_len]; simp
  · intro i h1 h2
    have hi : i < n := by simpa using h2
    have e := solve_only (colL_sq n (muP n).1 s) (y := triY n q s) (fun r hr => tri_row (q := q) hr) hi
    rw [atD (by rw [solveL_len]; exact hi)] at e
    simp only [ptOf, pointL, List.getElem_map, List.getElem_range]
    rw [e]
    generalize det n (mAt (colL n (muP n).1 s)) = D at *
    unfold sgI
    have : D = 1 ∨ D = -1 := by omega
    rcases this with rfl | rfl <;> simp

/-- A run, step by step. -/
def runT (n : Nat) (q : List Int) : Nat → Nat → List Nat → Nat → Option (Nat × Int)
  | 0, _, _, _ => none
  | f + 1, s, seen, k => if s ∈ seen then some (k, 2) else if exV ((List.range n).map (triY n q s)) 0 = 0 then some (k, 0) else runT n q f (s ^^^ exV ((List.range n).map (triY n q s)) 0) (s :: seen) (k + 1)

theorem runT_end {n : Nat} {q : List Int} : ∀ {f s k : Nat} {seen : List Nat} {r : Nat × Int}, runT n q f s seen k = some r → s = ss n ((muP n).1, q) 0 0 k → (∀ x, x ∈ seen ↔ x ∈ (List.range k).map (ss n ((muP n).1, q) 0 0)) → (∀ j, j < k → cls n ((muP n).1, q) 0 0 j = none) → RunEnd n ((muP n).1, q) 0 0 r.1 r.2
  | 0, _, _, _, _, h, _, _, _ => by cases h
  | f + 1, s, k, seen, r, h, hs, hm, hc => by
    have hD : det n (mAt (colL n (muP n).1 s)) ≠ 0 := fun g => by
      have := mu_det (n := n) (s := s)
      rw [g] at this
      cases this
    have hcl : cls n ((muP n).1, q) 0 0 k = if s ∈ seen then some 2 else if exV ((List.range n).map (triY n q s)) 0 = 0 then some 0 else none := by
      unfold cls
      rw [← hs, if_neg hD, mu_pt]
      by_cases g : s ∈ seen
      · rw [if_pos ((hm s).1 g), if_pos g]
      · rw [if_neg fun k => g ((hm s).2 k), if_neg g]
    unfold runT at h
    by_cases g : s ∈ seen
    · rw [if_pos g] at h hcl
      cases h
      exact ⟨hc, hcl⟩
    · rw [if_neg g] at h hcl
      by_cases g2 : exV ((List.range n).map (triY n q s)) 0 = 0
      · rw [if_pos g2] at h hcl
        cases h
        exact ⟨hc, hcl⟩
      · rw [if_neg g2] at h hcl
        refine runT_end h ?_ (fun x => ?_) fun j hj => ?_
        · rw [ss, ← hs]
          unfold stp
          rw [mu_pt]
        · rw [List.range_succ, List.map_append, List.mem_append, List.mem_cons, hm x, hs]
          simp [or_comm]
        · by_cases e : j = k
          · subst e; exact hcl
          · exact hc j (by omega)

def endOk (n x : Nat) : Bool := match runT n (sgnQ n x) 40 0 [] 0 with | some (_, e) => e == 0 | none => false

theorem mu_ends : ∀ n ∈ [1, 2, 3, 4, 5], ((List.range (2 ^ n)).all (endOk n) && (runT n (sgnQ n (2 ^ n - 1)) 40 0 [] 0 == some (2 ^ n - 1, 0))) = true := by decide +kernel

theorem mu_signs : ∀ n ∈ [1, 2, 3, 4, 5], sgnQ n (2 ^ n - 1) = List.replicate n (-1) := by decide +kernel

theorem mem5 {n : Nat} (h : 1 ≤ n ∧ n ≤ 5) : n ∈ [1, 2, 3, 4, 5] := by
  simp; omega

theorem mu_sgn {n x : Nat} : sgnP (muP n) x = ((muP n).1, sgnQ n x) := by
  unfold sgnP
  rw [(muP_is n).2.2]

theorem mu_run {n : Nat} (h : 1 ≤ n ∧ n ≤ 5) {x : Nat} (hx : x < 2 ^ n) : (runOf n (sgnP (muP n) x) 0 0).2 = 0 := by
  have h1 := mu_ends n (mem5 h)
  rw [Bool.and_eq_true] at h1
  have h2 := List.all_eq_true.1 h1.1 x (by simpa using hx)
  unfold endOk at h2
  cases hr : runT n (sgnQ n x) 40 0 [] 0 with
  | none => rw [hr] at h2; cases h2
  | some r =>
    rw [hr] at h2
    have := runT_end hr rfl (fun y => by simp) fun j hj => by omega
    rw [mu_sgn, runOf_eq this]
    simpa using h2

theorem mu_steps {n : Nat} (h : 1 ≤ n ∧ n ≤ 5) : runOf n (muP n) 0 0 = (2 ^ n - 1, 0) ∧ sgnP (muP n) (2 ^ n - 1) = muP n := by
  have h1 := mu_ends n (mem5 h)
  rw [Bool.and_eq_true] at h1
  have h2 : runT n (sgnQ n (2 ^ n - 1)) 40 0 [] 0 = some (2 ^ n - 1, 0) := eq_of_beq h1.2
  have h3 := mu_signs n (mem5 h)
  have e : ((muP n).1, sgnQ n (2 ^ n - 1)) = muP n := by rw [h3]; rfl
  have := runT_end h2 rfl (fun y => by simp) fun j hj => by omega
  rw [e] at this
  exact ⟨runOf_eq this, by rw [mu_sgn, e]⟩

/-! ### The worst signs -/

theorem wsM_ge {p : Prob} {rule : Int} {x : Nat} : ∀ {N : Nat}, x < N → ((runOf p.2.length (sgnP p x) rule 0).1 : Int) ≤ wsM p rule N
  | 0, h => by omega
  | N + 1, h => by
    unfold wsM
    by_cases e : x = N
    · subst e; split <;> omega
    · have := wsM_ge (p := p) (rule := rule) (x := x) (N := N) (by omega)
      split <;> omega

theorem wsW_at {p : Prob} {rule : Int} : ∀ {N : Nat}, 0 < N → ∃ x : Nat, x < N ∧ wsW p rule N = (x : Int) ∧ wsM p rule N = ((runOf p.2.length (sgnP p x) rule 0).1 : Int)
  | 0, h => by omega
  | 1, _ => by
    have h0 : wsM p rule 0 < ((runOf p.2.length (sgnP p 0) rule 0).1 : Int) := by
      show (-1 : Int) < _
      omega
    refine ⟨0, by omega, ?_, ?_⟩
    · show (if wsM p rule 0 < ((runOf p.2.length (sgnP p 0) rule 0).1 : Int) then (((0 : Nat) : Int)) else wsW p rule 0) = _
      rw [if_pos h0]
    · show (if wsM p rule 0 < ((runOf p.2.length (sgnP p 0) rule 0).1 : Int) then ((runOf p.2.length (sgnP p 0) rule 0).1 : Int) else wsM p rule 0) = _
      rw [if_pos h0]
  | N + 2, _ => by
    by_cases h : wsM p rule (N + 1) < ((runOf p.2.length (sgnP p (N + 1)) rule 0).1 : Int)
    · refine ⟨N + 1, by omega, ?_, ?_⟩
      · rw [wsW, if_pos h]
      · rw [wsM, if_pos h]
    · obtain ⟨x, h1, h2, h3⟩ := wsW_at (p := p) (rule := rule) (N := N + 1) (by omega)
      refine ⟨x, by omega, ?_, ?_⟩
      · rw [wsW, if_neg h, h2]
      · rw [wsM, if_neg h, h3]

/-! ### Solutions -/

theorem comTo_dvd {xs : List Frac} (h : Frs xs) : ∀ {m i : Nat}, m ≤ xs.length → i < m → (xs.getD i (0, 1)).2 ∣ comTo xs m
  | 0, _, _, h2 => by omega
  | m + 1, i, h1, h2 => by
    have key : ∀ d e : Int, d ∣ d.tdiv (Int.gcd d e) * e ∧ e ∣ d.tdiv (Int.gcd d e) * e := fun d e => by
      rw [Int.tdiv_eq_ediv_of_dvd (Int.gcd_dvd_left d e)]
      refine ⟨?_, Int.dvd_mul_left _ _⟩
      obtain ⟨k, hk⟩ := Int.gcd_dvd_right d e
      obtain ⟨j, hj⟩ := Int.gcd_dvd_left d e
      by_cases hg : (Int.gcd d e : Int) = 0
      · rw [hg, Int.zero_mul] at hk
        rw [hk]; simp
      · have e1 : d / (Int.gcd d e : Int) = j := by
          conv => lhs; lhs; rw [hj]
          rw [Int.mul_ediv_cancel_left _ hg]
        rw [e1]
        refine ⟨k, ?_⟩
        conv => lhs; rw [hk]
        conv => rhs; lhs; rw [hj]
        ac_rfl
    show _ ∣ comStep (comTo xs m) _
    unfold comStep
    by_cases e : i = m
    · subst e; exact (key _ _).2
    · exact Int.dvd_trans (comTo_dvd h (by omega) (by omega)) (key _ _).1

theorem tog_at {m n : Int} {xs : List Frac} (hf : Frs xs) {l : List Int} {d : Int} (h : tog m n xs = some (l, d)) : l.length = xs.length ∧ 1 ≤ d ∧ ∀ i, i < xs.length → l.getD i 0 * (xs.getD i (0, 1)).2 = (xs.getD i (0, 1)).1 * d := by
  unfold tog at h
  split at h
  · simp only [Option.some.injEq, Prod.mk.injEq] at h
    obtain ⟨rfl, rfl⟩ := h
    refine ⟨by simp, comTo_pos hf (Nat.le_refl _), fun i hi => ?_⟩
    have hd := comTo_dvd hf (Nat.le_refl _) hi
    rw [show (xs.map (comNum (comTo xs xs.length))).getD i 0 = comNum (comTo xs xs.length) xs[i] by simp [hi]]
    have e : xs.getD i (0, 1) = xs[i] := by simp [hi]
    rw [e] at hd ⊢
    unfold comNum
    rw [Int.tdiv_eq_ediv_of_dvd hd, Int.mul_assoc, Int.ediv_mul_cancel hd]
  · cases h

theorem sol_ok {n s : Nat} {p : Prob} (hp : PB n p) (hD : det n (mAt (colL n p.1 s)) ≠ 0) (hf : ∀ x ∈ ptOf n p s, 0 ≤ x) (hF : Frs (solF n p s)) {l : List Int} {d : Int} (h : tog 1000000000 1000000000000 (solF n p s) = some (l, d)) : solV n p l d = true := by
  obtain ⟨h1, h2, h3⟩ := tog_at hF h
  have hlen : (solF n p s).length = n := by simp [solF]
  rw [hlen] at h1 h3
  have hsl := solveL_len n (colL n p.1 s) p.2
  -- the numbers of z, times the determinant
  have hz : ∀ i, i < n → l.getD i 0 * det n (mAt (colL n p.1 s)) = if s.testBit i then d * (solveL n (colL n p.1 s) p.2).getD i 0 else 0 := fun i hi => by
    have g := h3 i hi
    have e : (solF n p s).getD i (0, 1) = if s.testBit i then frac ((solveL n (colL n p.1 s) p.2).getD i 0) (det n (mAt (colL n p.1 s))) else (0, 1) := by
      have : i < (solF n p s).length := by omega
      simp only [List.getD_eq_getElem?_getD, List.getElem?_eq_getElem this, Option.getD_some]
      simp [solF]
    rw [e] at g
    by_cases hb : s.testBit i = true
    · rw [if_pos hb] at g ⊢
      have hm := frac_mul (n := (solveL n (colL n p.1 s) p.2).getD i 0) hD
      have hq := frac_pos (n := (solveL n (colL n p.1 s) p.2).getD i 0) hD
      generalize frac ((solveL n (colL n p.1 s) p.2).getD i 0) (det n (mAt (colL n p.1 s))) = c at *
      generalize (solveL n (colL n p.1 s) p.2).getD i 0 = x at *
      generalize det n (mAt (colL n p.1 s)) = D at *
      refine Int.eq_of_mul_eq_mul_right (show c.2 ≠ 0 by omega) ?_
      rw [show l.getD i 0 * D * c.2 = l.getD i 0 * c.2 * D by ac_rfl, g, show c.1 * d * D = c.1 * D * d by ac_rfl, hm]
      ac_rfl
    · rw [if_neg hb] at g ⊢
      simp only [Int.zero_mul, Int.mul_one] at g
      rw [g, Int.zero_mul]
  -- the remainder, times the determinant
  have hw : ∀ i, i < n → restN p d l i * det n (mAt (colL n p.1 s)) = if s.testBit i then 0 else d * (solveL n (colL n p.1 s) p.2).getD i 0 := fun i hi => by
    have row := solve_row (q := p.2) (colL_sq n p.1 s) hi
    have him : i < p.1.length := by have := hp.sq.1; omega
    have hrl := hp.sq.2 _ (List.getElem_mem him)
    have edot : dot (p.1.getD i []) l = Go.Ab.sumTo n fun c => mAt p.1 i c * l.getD c 0 := by
      unfold dot
      rw [sum_two, getD_row him, hrl]
      refine Go.Ab.sumTo_congr fun c hc => ?_
      rw [mAt_at him (by omega)]
      show p.1[i].getD c 0 * _ = _
      rw [atD (by omega)]
    unfold restN
    rw [edot, Int.add_mul]
    have e1 : Go.Ab.sumTo n (fun c => mAt p.1 i c * l.getD c 0) * det n (mAt (colL n p.1 s)) = Go.Ab.sumTo n fun c => d * (if s.testBit c then mAt p.1 i c * (solveL n (colL n p.1 s) p.2).getD c 0 else 0) := by
      rw [Int.mul_comm, ← Go.Ab.sumTo_mul]
      refine Go.Ab.sumTo_congr fun c hc => ?_
      rw [show det n (mAt (colL n p.1 s)) * (mAt p.1 i c * l.getD c 0) = mAt p.1 i c * (l.getD c 0 * det n (mAt (colL n p.1 s))) by ac_rfl, hz c hc]
      split
      · ac_rfl
      · simp
    have e2 : p.2.getD i 0 * d * det n (mAt (colL n p.1 s)) = Go.Ab.sumTo n fun c => d * (mAt (colL n p.1 s) i c * (solveL n (colL n p.1 s) p.2).getD c 0) := by
      rw [Go.Ab.sumTo_mul, row]
      ac_rfl
    rw [e1, e2, ← Go.Ab.sumTo_add]
    have e3 : Go.Ab.sumTo n (fun c => d * (mAt (colL n p.1 s) i c * (solveL n (colL n p.1 s) p.2).getD c 0) + d * (if s.testBit c then mAt p.1 i c * (solveL n (colL n p.1 s) p.2).getD c 0 else 0)) = Go.Ab.sumTo n fun c => if c = i ∧ s.testBit i = false then d * (solveL n (colL n p.1 s) p.2).getD c 0 else 0 := Go.Ab.sumTo_congr fun c hc => by
      rw [colL_at hi hc]
      unfold colE
      by_cases hb : s.testBit c = true
      · rw [if_pos hb, if_pos hb, if_neg fun g => by rw [← g.1, hb] at g; exact absurd g.2 (by decide), Int.neg_mul, Int.mul_neg]
        omega
      · rw [if_neg hb, if_neg hb, Int.mul_zero, Int.add_zero]
        by_cases e : i = c
        · subst e
          rw [if_pos rfl, if_pos ⟨rfl, by simpa using hb⟩, Int.one_mul]
        · rw [if_neg e, if_neg fun g => e g.1.symm, Int.zero_mul, Int.mul_zero]
    rw [e3]
    by_cases hb : s.testBit i = true
    · rw [if_pos hb]
      exact Go.Ab.sumTo_zero fun c _ => if_neg fun g => by rw [hb] at g; exact absurd g.2 (by decide)
    · rw [if_neg hb, Go.Ab.sumTo_one hi fun c _ hc => if_neg fun g => hc g.1, if_pos ⟨rfl, by simpa using hb⟩]
  -- no number is less than 0
  have hy : ∀ i, i < n → 0 ≤ sgI (det n (mAt (colL n p.1 s))) * (solveL n (colL n p.1 s) p.2).getD i 0 := fun i hi => by
    have hil : i < (ptOf n p s).length := by rw [ptOf_len]; exact hi
    have := hf _ (List.getElem_mem hil)
    simp only [ptOf, pointL, List.getElem_map] at this
    rw [atD (by omega)]
    exact this
  have sg : ∀ x y : Int, x * det n (mAt (colL n p.1 s)) = d * y → 0 ≤ sgI (det n (mAt (colL n p.1 s))) * y → 0 ≤ x := fun x y g1 g2 => by
    generalize det n (mAt (colL n p.1 s)) = D at *
    have k1 := Int.mul_nonneg (show 0 ≤ d by omega) g2
    have k2 : d * (sgI D * y) = x * (sgI D * D) := by
      rw [show d * (sgI D * y) = sgI D * (d * y) by ac_rfl, ← g1]
      ac_rfl
    rw [k2, sgI_mul] at k1
    apply Classical.byContradiction
    intro hn
    have := Int.mul_neg_of_neg_of_pos (show x < 0 by omega) (show (0 : Int) < (D.natAbs : Int) by omega)
    omega
  unfold solV
  refine allN_true fun i hi => okI_iff.2 ?_
  have g1 := hz i hi
  have g2 := hw i hi
  by_cases hb : s.testBit i = true
  · rw [if_pos hb] at g1 g2
    have z : restN p d l i = 0 := (Int.mul_eq_zero.1 g2).elim id fun g => absurd g hD
    rw [z]
    exact ⟨by omega, sg _ _ g1 (hy i hi), by omega⟩
  · rw [if_neg hb] at g1 g2
    have z : l.getD i 0 = 0 := (Int.mul_eq_zero.1 g1).elim id fun g => absurd g hD
    rw [z]
    exact ⟨sg _ _ g2 (hy i hi), by omega, by omega⟩

end Go.Proofs.YthfcodelpebjcaaGreat
