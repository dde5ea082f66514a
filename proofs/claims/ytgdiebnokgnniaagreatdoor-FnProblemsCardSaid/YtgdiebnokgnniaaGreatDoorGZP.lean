/- Matrices whose principal minors are greater than 0: each right side has just one set of numbers not less than 0. No program here. -/
import Derived.Test.YtgdiebnokgnniaaGreatDoorZabG9
import Derived.Test.YtgdiebnokgnniaaGreatDoorZabG8
import Derived.Test.YtgdiebnokgnniaaGreatDoorZabG5
import Derived.Test.YtgdiebnokgnniaaGreatDoorGQQ
import Derived.Test.YtgdiebnokgnniaaGreatDoorGQY
namespace Go.Ab

/-- All principal minors are greater than 0. -/
def IsP (n : Nat) (m : List (List Int)) : Prop := ∀ s, s < 2 ^ n → 0 < minorL n m s

/-- The columns of a set, those of the matrix itself. -/
def colP (m : List (List Int)) (s r c : Nat) : Int := if s.testBit c then mAt m r c else if r = c then 1 else 0

section
variable {n : Nat} {p : List (List Int) × List Int}

theorem pt_at {s i : Nat} (hi : i < n) : (ptOf n p s).getD i 0 = sgI (det n (mAt (colL n p.1 s))) * (solveL n (colL n p.1 s) p.2).getD i 0 := by
  have h1 : i < (solveL n (colL n p.1 s) p.2).length := by rw [solveL_len]; exact hi
  have h2 : i < (ptOf n p s).length := by rw [ptOf_len]; exact hi
  rw [atD h1, atD h2]
  simp [ptOf, pointL]

end
end Go.Ab
/-! Problems with their variables in another order, or with rows and variables in other units, have the same points. No program here. -/
namespace Go.Ab

section
variable {n : Nat} {p p' : List (List Int) × List Int} {t : Nat → Nat} {s s' : Nat}

/-- The columns in another order. -/
theorem perm_col (ht : Inj n t) (hM : ∀ i j, i < n → j < n → mAt p'.1 i j = mAt p.1 (t i) (t j)) (hs : ∀ i, i < n → s'.testBit i = s.testBit (t i)) {i j : Nat} (hi : i < n) (hj : j < n) : colE p'.1 s' i j = colE p.1 s (t i) (t j) := by
  unfold colE
  rw [hs j hj, hM i j hi hj]
  by_cases hb : s.testBit (t j) = true
  · rw [if_pos hb, if_pos hb]
  · rw [if_neg hb, if_neg hb]
    by_cases e : i = j
    · subst e; rw [if_pos rfl, if_pos rfl]
    · rw [if_neg e, if_neg fun g => e (ht i j hi hj g)]

theorem perm_det (ht : Inj n t) (htn : ∀ i, i < n → t i < n) (hM : ∀ i j, i < n → j < n → mAt p'.1 i j = mAt p.1 (t i) (t j)) (hs : ∀ i, i < n → s'.testBit i = s.testBit (t i)) : det n (mAt (colL n p'.1 s')) = det n (mAt (colL n p.1 s)) := by
  rw [← det_perm n (Nat.le_refl n) (mAt (colL n p.1 s)) t ht htn fun i h1 h2 => by omega]
  refine det_congr fun i j hi hj => ?_
  rw [colL_at hi hj, colL_at (htn i hi) (htn j hj), perm_col ht hM hs hi hj]

end
end Go.Ab

/-! A list of one plain element written out; fractions in lowest terms that are equal crosswise. No program here. -/
namespace Go.Ab

section
variable {H0 H : Heap} {L : List (Atom H0.next)} {K : Post}

/-- One element is appended; what follows also looks at the heap ahead of it. -/
theorem Wl.pushPK {α : Type} {r : Rd α} [p : Plain r] {ty ty' : TypeId} {v u : Value} {zc cs : List Value} {x : α} {xs : List α} {i m : Nat} {K : Heap → Post} (hm : r.n = m) (hz : zc.length = m) (hu : cellsA u = some cs) (hx : ∀ H, r.rel H [] cs x) (h : Loc H0 L H) [c : AtV L [v] (.grow r ty v xs) i]
    (hlen : xs.length < 17179869184) (k : ∀ H1 H' v', Loc H0 L H1 → Loc H0 (L.set i (.grow r ty v' (xs ++ [x]))) H' → K H1 v' H') : W.lit 1 zc ty' [(0, m, u)] H fun y H => (fun Hk => W.append m ty v y H (K Hk)) H := by
  subst hm
  have hl : cs.length = r.n := r.len (hx H)
  refine Wi.lit (cells := cs) ?_ fun H1 l1 n1 k1 => ?_
  · have e : reps 1 zc = zc := by simp [reps]
    simp only [fillA, hu, e, hl, hz, Nat.zero_add, Nat.le_refl, and_self, if_true, List.take_zero, List.nil_append]
    rw [List.drop_of_length_le (by omega), List.append_nil]
  · refine Wl.appendH (zs := [x]) rfl (h.to l1) c.get ⟨[H.next], .inr ⟨H.next, 0, 2, _, fun _ => [], rfl, rfl, ⟨by omega, k1, by simp, by simp, by simp [hl], fun i hi => ?_⟩⟩⟩ (by simp; omega) fun H' v' h' => k H1 H' v' (h.to l1) h'
    have : i = 0 := by simp at hi; omega
    subst this
    have e : cellsAt r.n cs 0 0 = cs := by unfold cellsAt; simp [← hl]
    rw [e]
    exact hx H1

/-- One thing is let go. -/
theorem Loc.cut (h : Loc H0 L H) (i : Nat) : Loc H0 (L.eraseIdx i) H := by
  obtain ⟨le, F, h1, h2⟩ := h
  let f : Nat → Nat := fun j => if j < i then j else j + 1
  have e : ∀ j a, (L.eraseIdx i)[j]? = some a → L[f j]? = some a := fun j a hj => by
    rw [List.getElem?_eraseIdx] at hj
    simp only [f]
    split at hj
    · rename_i g; rw [if_pos g]; exact hj
    · rename_i g; rw [if_neg g]; exact hj
  refine ⟨le, fun j => F (f j), fun j a hj => h1 _ a (e j a hj), fun j k a c hjk hj hk => h2 _ _ a c ?_ (e j a hj) (e k c hk)⟩
  simp only [f]
  split <;> split <;> omega

end

/-- Fractions in lowest terms that are equal crosswise are the same. -/
theorem frac_cross {x y : Frac} (hx : 0 < x.2) (hy : 0 < y.2) (gx : Int.gcd x.1 x.2 = 1) (gy : Int.gcd y.1 y.2 = 1) : x.1 * y.2 = y.1 * x.2 ↔ x = y := by
  constructor
  · intro h
    have d1 : x.2 ∣ y.2 := by
      have : x.2 ∣ x.1 * y.2 := ⟨y.1, by rw [h, Int.mul_comm]⟩
      exact Int.natAbs_dvd_natAbs.1 (Nat.Coprime.dvd_of_dvd_mul_left (show Nat.gcd x.2.natAbs x.1.natAbs = 1 by rw [Nat.gcd_comm]; exact gx) (by rw [← Int.natAbs_mul]; exact Int.natAbs_dvd_natAbs.2 this))
    have d2 : y.2 ∣ x.2 := by
      have : y.2 ∣ y.1 * x.2 := ⟨x.1, by rw [← h, Int.mul_comm]⟩
      exact Int.natAbs_dvd_natAbs.1 (Nat.Coprime.dvd_of_dvd_mul_left (show Nat.gcd y.2.natAbs y.1.natAbs = 1 by rw [Nat.gcd_comm]; exact gy) (by rw [← Int.natAbs_mul]; exact Int.natAbs_dvd_natAbs.2 this))
    have e2 : x.2 = y.2 := Int.dvd_antisymm (by omega) (by omega) d1 d2
    have e1 : x.1 = y.1 := by
      rw [e2] at h
      exact Int.eq_of_mul_eq_mul_right (by omega) h
    exact Prod.ext e1 e2
  · rintro rfl; rfl

end Go.Ab

/-! What the law FnProblems needs: points fulfil the equations of their sets, feasible points are solutions, the determinant of all columns does not hang on the order. No condition. -/
namespace Go.Proofs.YtgdiebnokgnniaaGreatDoor
open Go.Ab

/-! ### Points and their remainders -/

theorem comTo_dv {xs : List Frac} (h : Frs xs) : ∀ {m i : Nat}, m ≤ xs.length → i < m → (xs.getD i (0, 1)).2 ∣ comTo xs m
  | 0, _, _, h2 => by omega
  | m + 1, i, h1, h2 => by
    have key : ∀ d e : Int, d ∣ d.tdiv (Int.gcd d e) * e ∧ e ∣ d.tdiv (Int.gcd d e) * e := fun d e => by
      rw [Int.tdiv_eq_ediv_of_dvd (Int.gcd_dvd_left d e)]
      refine ⟨?_, Int.dvd_mul_left _ _⟩
      obtain ⟨k, hk⟩ := Int.gcd_dvd_right d e
      obtain ⟨j, hj⟩ := Int.gcd_dvd_left d e
      by_cases hg : (Int.gcd d e : Int) = 0
      · rw [hg, Int.zero_mul] at hk
        rw [hk]; simp
      · have e1 : d / (Int.gcd d e : Int) = j := by
          conv => lhs; lhs; rw [hj]
          rw [Int.mul_ediv_cancel_left _ hg]
        rw [e1]
        refine ⟨k, ?_⟩
        conv => lhs; rw [hk]
        conv => rhs; lhs; rw [hj]
        ac_rfl
    show _ ∣ comStep (comTo xs m) _
    unfold comStep
    by_cases e : i = m
    · subst e; exact (key _ _).2
    · exact Int.dvd_trans (comTo_dv h (by omega) (by omega)) (key _ _).1

theorem tog_pt {m n : Int} {xs : List Frac} (hf : Frs xs) {l : List Int} {d : Int} (h : tog m n xs = some (l, d)) : l.length = xs.length ∧ 1 ≤ d ∧ ∀ i, i < xs.length → l.getD i 0 * (xs.getD i (0, 1)).2 = (xs.getD i (0, 1)).1 * d := by
  unfold tog at h
  split at h
  · simp only [Option.some.injEq, Prod.mk.injEq] at h
    obtain ⟨rfl, rfl⟩ := h
    refine ⟨by simp, comTo_pos hf (Nat.le_refl _), fun i hi => ?_⟩
    have hd := comTo_dv hf (Nat.le_refl _) hi
    rw [show (xs.map (comNum (comTo xs xs.length))).getD i 0 = comNum (comTo xs xs.length) xs[i] by simp [hi]]
    have e : xs.getD i (0, 1) = xs[i] := by simp [hi]
    rw [e] at hd ⊢
    unfold comNum
    rw [Int.tdiv_eq_ediv_of_dvd hd, Int.mul_assoc, Int.ediv_mul_cancel hd]
  · cases h

theorem sum_alike (f : Nat → Int) : ∀ n, sumTo f n = Go.Ab.sumTo n f
  | 0 => rfl
  | n + 1 => by
    show sumTo f n + f n = Go.Ab.sumTo n f + f n
    rw [sum_alike f n]

/-- The numbers of a point that belong to z. -/
def solZ (n : Nat) (p : Prob) (s : Nat) : List Frac := (List.range n).map fun i => if s.testBit i then frac ((solveL n (colL n p.1 s) p.2).getD i 0) (det n (mAt (colL n p.1 s))) else (0, 1)

theorem solZ_at {n s i : Nat} {p : Prob} (hi : i < n) : (solZ n p s).getD i (0, 1) = if s.testBit i then frac ((solveL n (colL n p.1 s) p.2).getD i 0) (det n (mAt (colL n p.1 s))) else (0, 1) := by
  have : i < (solZ n p s).length := by simpa [solZ] using hi
  simp only [List.getD_eq_getElem?_getD, List.getElem?_eq_getElem this, Option.getD_some]
  simp [solZ]

theorem solZ_rest {n s : Nat} {p : Prob} (hp : PB n p) (hD : det n (mAt (colL n p.1 s)) ≠ 0) (hF : Frs (solZ n p s)) {l : List Int} {d : Int} (h : tog 1000000000 1000000000000 (solZ n p s) = some (l, d)) :
    l.length = n ∧ 1 ≤ d ∧ ∀ i, i < n → (l.getD i 0 * det n (mAt (colL n p.1 s)) = if s.testBit i then d * (solveL n (colL n p.1 s) p.2).getD i 0 else 0) ∧
      (restN p d l i * det n (mAt (colL n p.1 s)) = if s.testBit i then 0 else d * (solveL n (colL n p.1 s) p.2).getD i 0) := by
  obtain ⟨h1, h2, h3⟩ := tog_pt hF h
  have hlen : (solZ n p s).length = n := by simp [solZ]
  rw [hlen] at h1 h3
  have hsl := solveL_len n (colL n p.1 s) p.2
  have hz : ∀ i, i < n → l.getD i 0 * det n (mAt (colL n p.1 s)) = if s.testBit i then d * (solveL n (colL n p.1 s) p.2).getD i 0 else 0 := fun i hi => by
    have g := h3 i hi
    rw [solZ_at hi] at g
    by_cases hb : s.testBit i = true
    · rw [if_pos hb] at g ⊢
      have hm := frac_mul (n := (solveL n (colL n p.1 s) p.2).getD i 0) hD
      have hq := frac_pos (n := (solveL n (colL n p.1 s) p.2).getD i 0) hD
      generalize frac ((solveL n (colL n p.1 s) p.2).getD i 0) (det n (mAt (colL n p.1 s))) = c at *
      generalize (solveL n (colL n p.1 s) p.2).getD i 0 = x at *
      generalize det n (mAt (colL n p.1 s)) = D at *
      refine Int.eq_of_mul_eq_mul_right (show c.2 ≠ 0 by omega) ?_
      rw [show l.getD i 0 * D * c.2 = l.getD i 0 * c.2 * D by ac_rfl, g, show c.1 * d * D = c.1 * D * d by ac_rfl, hm]
      ac_rfl
    · rw [if_neg hb] at g ⊢
      simp only [Int.zero_mul, Int.mul_one] at g
      rw [g, Int.zero_mul]
  refine ⟨h1, h2, fun i hi => ⟨hz i hi, ?_⟩⟩
  have row := solve_row (q := p.2) (colL_sq n p.1 s) hi
  have him : i < p.1.length := by have := hp.sq.1; omega
  have hrl := hp.sq.2 _ (List.getElem_mem him)
  have edot : dot (p.1.getD i []) l = Go.Ab.sumTo n fun c => mAt p.1 i c * l.getD c 0 := by
    unfold dot
    rw [sum_alike, getD_row him, hrl]
    refine Go.Ab.sumTo_congr fun c hc => ?_
    rw [mAt_at him (by omega)]
    show p.1[i].getD c 0 * _ = _
    rw [atD (by omega)]
  unfold restN
  rw [edot, Int.add_mul]
  have e1 : Go.Ab.sumTo n (fun c => mAt p.1 i c * l.getD c 0) * det n (mAt (colL n p.1 s)) = Go.Ab.sumTo n fun c => d * (if s.testBit c then mAt p.1 i c * (solveL n (colL n p.1 s) p.2).getD c 0 else 0) := by
    rw [Int.mul_comm, ← Go.Ab.sumTo_mul]
    refine Go.Ab.sumTo_congr fun c hc => ?_
    rw [show det n (mAt (colL n p.1 s)) * (mAt p.1 i c * l.getD c 0) = mAt p.1 i c * (l.getD c 0 * det n (mAt (colL n p.1 s))) by ac_rfl, hz c hc]
    split
    · ac_rfl
    · simp
  have e2 : p.2.getD i 0 * d * det n (mAt (colL n p.1 s)) = Go.Ab.sumTo n fun c => d * (mAt (colL n p.1 s) i c * (solveL n (colL n p.1 s) p.2).getD c 0) := by
    rw [Go.Ab.sumTo_mul, row]
    ac_rfl
  rw [e1, e2, ← Go.Ab.sumTo_add]
  have e3 : Go.Ab.sumTo n (fun c => d * (mAt (colL n p.1 s) i c * (solveL n (colL n p.1 s) p.2).getD c 0) + d * (if s.testBit c then mAt p.1 i c * (solveL n (colL n p.1 s) p.2).getD c 0 else 0)) = Go.Ab.sumTo n fun c => if c = i ∧ s.testBit i = false then d * (solveL n (colL n p.1 s) p.2).getD c 0 else 0 := Go.Ab.sumTo_congr fun c hc => by
    rw [colL_at hi hc]
    unfold colE
    by_cases hb : s.testBit c = true
    · rw [if_pos hb, if_pos hb, if_neg fun g => by rw [← g.1, hb] at g; exact absurd g.2 (by decide), Int.neg_mul, Int.mul_neg]
      omega
    · rw [if_neg hb, if_neg hb, Int.mul_zero, Int.add_zero]
      by_cases e : i = c
      · subst e
        rw [if_pos rfl, if_pos ⟨rfl, by simpa using hb⟩, Int.one_mul]
      · rw [if_neg e, if_neg fun g => e g.1.symm, Int.zero_mul, Int.mul_zero]
  rw [e3]
  by_cases hb : s.testBit i = true
  · rw [if_pos hb]
    exact Go.Ab.sumTo_zero fun c _ => if_neg fun g => by rw [hb] at g; exact absurd g.2 (by decide)
  · rw [if_neg hb, Go.Ab.sumTo_one hi fun c _ hc => if_neg fun g => hc g.1, if_pos ⟨rfl, by simpa using hb⟩]

/-- Numbers that stand in the same ratio give the same fraction. -/
theorem frac_ratio {a b c e : Int} (hb : b ≠ 0) (he : e ≠ 0) (h : a * e = c * b) : frac a b = frac c e := by
  refine (frac_cross (frac_pos hb) (frac_pos he) (frac_gcd hb) (frac_gcd he)).1 ?_
  have m1 := frac_mul (n := a) hb
  have m2 := frac_mul (n := c) he
  generalize frac a b = x at *
  generalize frac c e = y at *
  have hbe : b * e ≠ 0 := Int.mul_ne_zero hb he
  refine Int.eq_of_mul_eq_mul_right hbe ?_
  rw [show x.1 * y.2 * (b * e) = x.1 * b * (y.2 * e) by ac_rfl, m1, show y.1 * x.2 * (b * e) = y.1 * e * (x.2 * b) by ac_rfl, m2,
    show a * x.2 * (y.2 * e) = a * e * (x.2 * y.2) by ac_rfl, h]
  ac_rfl

theorem frac_num {a b : Int} (hb : b ≠ 0) (h : a = 0) : (frac a b).1 = 0 := by
  have m1 := frac_mul (n := a) hb
  rw [h, Int.zero_mul] at m1
  rw [h]
  exact (Int.mul_eq_zero.1 m1).elim id fun g => absurd g hb

theorem frac_nn {a b : Int} (hb : b ≠ 0) : 0 ≤ (frac a b).1 ↔ 0 ≤ sgI b * a := (frac_sign hb).1

/-- What is known where there is a point. -/
theorem po_ok {p : Prob} {s : Int} (h : (poRes p s).2 = 0) : ∃ k : Nat, s = (k : Int) ∧ k < 32 ∧ isProb p = true ∧ PB p.2.length p ∧ det p.2.length (mAt (colL p.2.length p.1 k)) ≠ 0 ∧
    (poRes p s).1 = (solveL p.2.length (colL p.2.length p.1 k) p.2).map (fun x => frac x (det p.2.length (mAt (colL p.2.length p.1 k)))) ∧ Frs (poRes p s).1 ∧ deRes p s = (det p.2.length (mAt (colL p.2.length p.1 k)), 0) := by
  unfold poRes at h ⊢
  by_cases he : setC p s = 0
  case neg => rw [if_neg he] at h; exact absurd h he
  obtain ⟨k, rfl, h1, h2, hpb⟩ := setC_nat he
  rw [if_pos he, Int.toNat_natCast] at h ⊢
  by_cases hD : det p.2.length (mAt (colL p.2.length p.1 k)) = 0
  case pos => rw [if_pos hD] at h; cases h
  rw [if_neg hD] at h ⊢
  unfold tolF at h ⊢
  split at h
  · rename_i g
    rw [if_pos g]
    exact ⟨k, rfl, h2, (setC_ok he).1, hpb, hD, rfl, fun a ha => List.all_eq_true.1 g a ha, by unfold deRes; rw [if_pos he, Int.toNat_natCast]⟩
  · cases h

section
variable {p : Prob} {k : Nat}

theorem pt_len : ((solveL p.2.length (colL p.2.length p.1 k) p.2).map (fun x => frac x (det p.2.length (mAt (colL p.2.length p.1 k))))).length = p.2.length := by simp [solveL]

theorem pt_at {i : Nat} (h : i < ((solveL p.2.length (colL p.2.length p.1 k) p.2).map (fun x => frac x (det p.2.length (mAt (colL p.2.length p.1 k))))).length) :
    ((solveL p.2.length (colL p.2.length p.1 k) p.2).map (fun x => frac x (det p.2.length (mAt (colL p.2.length p.1 k)))))[i] = frac ((solveL p.2.length (colL p.2.length p.1 k) p.2).getD i 0) (det p.2.length (mAt (colL p.2.length p.1 k))) := by
  have : i < (solveL p.2.length (colL p.2.length p.1 k) p.2).length := by simpa using h
  rw [List.getElem_map, atD this]

theorem solZ_fr {F : List Frac} (hF : F = (solveL p.2.length (colL p.2.length p.1 k) p.2).map (fun x => frac x (det p.2.length (mAt (colL p.2.length p.1 k))))) (hf : Frs F) : Frs (solZ p.2.length p k) := fun a ha => by
  obtain ⟨i, hi, rfl⟩ := List.mem_map.1 ha
  have hi : i < p.2.length := by simpa using hi
  by_cases hb : k.testBit i = true
  · rw [if_pos hb]
    have hl : i < F.length := by rw [hF, pt_len]; exact hi
    have := hf _ (List.getElem_mem hl)
    subst hF
    rw [pt_at] at this
    exact this
  · rw [if_neg hb]
    decide

/-- The remainder at the point. -/
theorem re_ok {F : List Frac} (hp : isProb p = true) (hD : det p.2.length (mAt (colL p.2.length p.1 k)) ≠ 0) (hF : F = (solveL p.2.length (colL p.2.length p.1 k) p.2).map (fun x => frac x (det p.2.length (mAt (colL p.2.length p.1 k))))) (hf : Frs F)
    (h : (reRes p (solZ p.2.length p k)).2 = 0) : (reRes p (solZ p.2.length p k)).1.length = p.2.length ∧ ∀ i (h1 : i < (reRes p (solZ p.2.length p k)).1.length) (h2 : i < F.length), (k.testBit i = true → (reRes p (solZ p.2.length p k)).1[i].1 = 0) ∧ (k.testBit i = false → (reRes p (solZ p.2.length p k)).1[i] = F[i]) := by
  have hZ := solZ_fr hF hf
  have hlz : (solZ p.2.length p k).length = p.2.length := by simp [solZ]
  have hpb := PB.of hp
  have key : ∀ R, reRes p (solZ p.2.length p k) = R → R.2 = 0 → R.1.length = p.2.length ∧ ∀ i (h1 : i < R.1.length) (h2 : i < F.length), (k.testBit i = true → R.1[i].1 = 0) ∧ (k.testBit i = false → R.1[i] = F[i]) := by
    intro R hR h0
    unfold reRes at hR
    rw [if_pos ⟨hp, hZ⟩, if_pos hlz] at hR
    cases ht : tog 1000000000 1000000000000 (solZ p.2.length p k) with
    | none =>
      rw [ht] at hR
      subst hR
      cases h0
    | some q =>
      obtain ⟨l, d⟩ := q
      rw [ht] at hR
      obtain ⟨g1, g2, g3⟩ := solZ_rest hpb hD hZ ht
      dsimp only at hR
      unfold frAll at hR
      by_cases hall : (restL p.2.length p d l).all (fun n => decide ((fracT n d).2 = 0)) = true
      case neg =>
        rw [if_neg hall] at hR
        subst hR
        cases h0
      rw [if_pos hall] at hR
      subst hR
      refine ⟨by simp [restL], fun i h1 h2 => ?_⟩
      have hi : i < p.2.length := by simpa [restL] using h1
      have hir : i < (restL p.2.length p d l).length := by rw [restL_len]; exact hi
      have et := List.all_eq_true.1 hall _ (List.getElem_mem hir)
      rw [decide_eq_true_iff, fracT_zero, restL_at] at et
      have e1 : ((restL p.2.length p d l).map fun n => (fracT n d).1)[i]'h1 = frac (restN p d l i) d := by
        rw [List.getElem_map, restL_at, fracT_eq, if_pos et]
      rw [e1]
      obtain ⟨_, g5⟩ := g3 i hi
      refine ⟨fun hb => ?_, fun hb => ?_⟩
      · rw [if_pos hb] at g5
        exact frac_num (by omega) ((Int.mul_eq_zero.1 g5).elim id fun g => absurd g hD)
      · rw [if_neg (by rw [hb]; decide)] at g5
        subst hF
        rw [pt_at]
        exact frac_ratio (by omega) hD (by rw [g5]; exact Int.mul_comm _ _)
  exact key _ rfl h

/-- Feasible points are solutions, and no others. -/
theorem is_ok {F : List Frac} (hp : isProb p = true) (hD : det p.2.length (mAt (colL p.2.length p.1 k)) ≠ 0) (hF : F = (solveL p.2.length (colL p.2.length p.1 k) p.2).map (fun x => frac x (det p.2.length (mAt (colL p.2.length p.1 k))))) (hf : Frs F)
    (h : (isRes p (solZ p.2.length p k)).2 = 0) : (isRes p (solZ p.2.length p k)).1 = F.all fun a => decide (0 ≤ a.1) := by
  have hZ := solZ_fr hF hf
  have hlz : (solZ p.2.length p k).length = p.2.length := by simp [solZ]
  have hpb := PB.of hp
  unfold isRes at h ⊢
  rw [if_pos ⟨hp, hZ⟩, if_pos hlz] at h ⊢
  cases ht : tog 1000000000 1000000000000 (solZ p.2.length p k) with
  | none =>
    rw [ht] at h
    cases h
  | some q =>
    obtain ⟨l, d⟩ := q
    obtain ⟨g1, g2, g3⟩ := solZ_rest hpb hD hZ ht
    dsimp only
    have sg : ∀ x y : Int, x * det p.2.length (mAt (colL p.2.length p.1 k)) = d * y → (0 ≤ x ↔ 0 ≤ sgI (det p.2.length (mAt (colL p.2.length p.1 k))) * y) := fun x y g1 => by
      generalize det p.2.length (mAt (colL p.2.length p.1 k)) = D at *
      have k2 : d * (sgI D * y) = x * (D.natAbs : Int) := by
        rw [show d * (sgI D * y) = sgI D * (d * y) by ac_rfl, ← g1, ← sgI_mul D]
        ac_rfl
      have hDp : (0 : Int) < (D.natAbs : Int) := by omega
      constructor
      · intro hx
        have := Int.mul_nonneg hx (Int.le_of_lt hDp)
        rw [← k2] at this
        exact Int.nonneg_of_mul_nonneg_right this (by omega)
      · intro hy
        have := Int.mul_nonneg (show 0 ≤ d by omega) hy
        rw [k2] at this
        exact Int.nonneg_of_mul_nonneg_left this hDp
    have each : ∀ i, i < p.2.length → (okI (restN p d l i) (l.getD i 0) = true ↔ 0 ≤ sgI (det p.2.length (mAt (colL p.2.length p.1 k))) * (solveL p.2.length (colL p.2.length p.1 k) p.2).getD i 0) := fun i hi => by
      obtain ⟨g4, g5⟩ := g3 i hi
      rw [okI_iff]
      by_cases hb : k.testBit i = true
      · rw [if_pos hb] at g4 g5
        have z : restN p d l i = 0 := (Int.mul_eq_zero.1 g5).elim id fun g => absurd g hD
        rw [z, ← sg _ _ g4]
        omega
      · rw [if_neg hb] at g4 g5
        have z : l.getD i 0 = 0 := (Int.mul_eq_zero.1 g4).elim id fun g => absurd g hD
        rw [z, ← sg _ _ g5]
        omega
    have eF : (F.all fun a => decide (0 ≤ a.1)) = true ↔ ∀ i, i < p.2.length → 0 ≤ sgI (det p.2.length (mAt (colL p.2.length p.1 k))) * (solveL p.2.length (colL p.2.length p.1 k) p.2).getD i 0 := by
      subst hF
      rw [List.all_eq_true]
      constructor
      · intro g i hi
        have := g _ (List.getElem_mem (show i < _ by rw [pt_len]; exact hi))
        rw [pt_at, decide_eq_true_iff, frac_nn hD] at this
        exact this
      · intro g a ha
        obtain ⟨i, hi, rfl⟩ := List.mem_iff_getElem.1 ha
        rw [pt_at, decide_eq_true_iff, frac_nn hD]
        exact g i (by rw [pt_len] at hi; exact hi)
    rw [Bool.eq_iff_iff, eF]
    unfold solV
    constructor
    · intro g i hi
      exact (each i hi).1 (allN_iff.1 g i hi)
    · intro g
      exact allN_true fun i hi => (each i hi).2 (g i hi)

end

/-! ### Renumbered problems -/

section
variable {n : Nat} {l src : List Int}

theorem rowPut_at (t : Nat → Nat) (ht : ∀ i, i < n → (l.getD i 0).toNat = t i) (hi : Inj n t) : ∀ x, x ≤ n → ∀ dst : List Int, (∀ i, i < n → t i < dst.length) → ∀ k, k < x → (rowPut l src dst x).getD (t k) 0 = src.getD k 0
  | 0, _, _, _, k, hk => by omega
  | x + 1, hx, dst, hd, k, hk => by
    rw [rowPut_succ, ht x (by omega)]
    have hlen : t k < (rowPut l src dst x).length := by rw [rowPut_length]; exact hd k (by omega)
    by_cases e : k = x
    · subst e
      simp [List.getD_eq_getElem?_getD, hlen]
    · have hne : t x ≠ t k := fun g => e (hi k x (by omega) (by omega) g.symm)
      have := rowPut_at t ht hi x (by omega) dst hd k (by omega)
      rw [List.getD_eq_getElem?_getD, List.getElem?_set_ne hne, ← List.getD_eq_getElem?_getD]
      exact this

variable {p : Prob}

theorem probPut_at (t : Nat → Nat) (ht : ∀ i, i < n → (l.getD i 0).toNat = t i) (hi : Inj n t) (htn : ∀ i, i < n → t i < n) (h1 : p.1.length = n) (hr : ∀ r ∈ p.1, r.length = n) : ∀ x, x ≤ n → ∀ i, i < x → ∀ k, k < n → mAt (probPut p l x).1 (t i) (t k) = mAt p.1 i k
  | 0, _, i, hx, _, _ => by omega
  | x + 1, hx, i, hix, k, hk => by
    obtain ⟨pl1, _⟩ := probPut_len p l x
    rw [probPut_succ, ht x (by omega)]
    have hxn : x < n := by omega
    have htx := htn x hxn
    have hlen : t x < (probPut p l x).1.length := by omega
    by_cases e : i = x
    · subst e
      have hrow : ((probPut p l i).1.getD (t i) []).length = n := by
        rw [List.getD_eq_getElem?_getD, List.getElem?_eq_getElem hlen]
        exact probPut_rows hr i _ (List.getElem_mem hlen)
      show (((probPut p l i).1.set (t i) _).getD (t i) []).getD (t k) 0 = _
      rw [show ((probPut p l i).1.set (t i) (rowPut l (p.1.getD i []) ((probPut p l i).1.getD (t i) []) p.1.length)).getD (t i) [] = rowPut l (p.1.getD i []) ((probPut p l i).1.getD (t i) []) p.1.length by simp [List.getD_eq_getElem?_getD, hlen], h1]
      exact rowPut_at t ht hi n (Nat.le_refl _) _ (fun j hj => by rw [hrow]; exact htn j hj) k hk
    · have hne : t x ≠ t i := fun g => e (hi i x (by omega) (by omega) g.symm)
      have := probPut_at t ht hi htn h1 hr x (by omega) i (by omega) k hk
      show (((probPut p l x).1.set (t x) _).getD (t i) []).getD (t k) 0 = _
      rw [show ∀ r, ((probPut p l x).1.set (t x) r).getD (t i) [] = (probPut p l x).1.getD (t i) [] from fun r => by
        rw [List.getD_eq_getElem?_getD, List.getElem?_set_ne hne, ← List.getD_eq_getElem?_getD]]
      exact this

theorem rowPut_in {m : Int} (hs : ∀ e ∈ src, -m ≤ e ∧ e ≤ m) (h0 : 0 ≤ m) : ∀ x, ∀ dst : List Int, (∀ e ∈ dst, -m ≤ e ∧ e ≤ m) → ∀ e ∈ rowPut l src dst x, -m ≤ e ∧ e ≤ m
  | 0, dst, hd, e, he => hd e he
  | x + 1, dst, hd, e, he => by
    rw [rowPut_succ] at he
    rcases List.mem_or_eq_of_mem_set he with g | g
    · exact rowPut_in hs h0 x dst hd e g
    · rw [g, List.getD_eq_getElem?_getD]
      cases h : src[x]? with
      | none => simp only [Option.getD_none]; omega
      | some y => exact hs y (List.mem_of_getElem? h)

theorem probPut_in (h1 : ∀ r ∈ p.1, ∀ e ∈ r, -20 ≤ e ∧ e ≤ 20) (h2 : ∀ e ∈ p.2, -100 ≤ e ∧ e ≤ 100) : ∀ x, (∀ r ∈ (probPut p l x).1, ∀ e ∈ r, -20 ≤ e ∧ e ≤ 20) ∧ ∀ e ∈ (probPut p l x).2, -100 ≤ e ∧ e ≤ 100
  | 0 => ⟨h1, h2⟩
  | x + 1 => by
    obtain ⟨g1, g2⟩ := probPut_in h1 h2 x
    have row : ∀ (m : List (List Int)) i, (∀ r ∈ m, ∀ e ∈ r, (-20 : Int) ≤ e ∧ e ≤ 20) → ∀ e ∈ m.getD i [], (-20 : Int) ≤ e ∧ e ≤ 20 := fun m i hm e he => by
      rw [List.getD_eq_getElem?_getD] at he
      cases h : m[i]? with
      | none => rw [h] at he; simp at he
      | some r => rw [h] at he; exact hm r (List.mem_of_getElem? h) e he
    rw [probPut_succ]
    refine ⟨fun r hr => ?_, fun e he => ?_⟩
    · rcases List.mem_or_eq_of_mem_set hr with g | g
      · exact g1 r g
      · rw [g]
        exact rowPut_in (row _ _ h1) (by decide) _ _ (row _ _ g1)
    · rcases List.mem_or_eq_of_mem_set he with g | g
      · exact g2 e g
      · rw [g, List.getD_eq_getElem?_getD]
        cases h : p.2[x]? with
        | none => simp only [Option.getD_none]; omega
        | some y => exact h2 y (List.mem_of_getElem? h)

theorem isProb_mk (h0 : 0 < p.1.length) (h5 : p.1.length ≤ 5) (hl : p.2.length = p.1.length) (hr : ∀ r ∈ p.1, r.length = p.1.length) (h1 : ∀ r ∈ p.1, ∀ e ∈ r, -20 ≤ e ∧ e ≤ 20) (h2 : ∀ e ∈ p.2, -100 ≤ e ∧ e ≤ 100) : isProb p = true := by
  unfold isProb
  rw [isMat_eq]
  simp only [Bool.and_eq_true, decide_eq_true_eq, List.all_eq_true, inR, allUp]
  exact ⟨⟨⟨⟨by omega, by omega⟩, fun r hr' => ⟨hr r hr', fun x hx => h1 r hr' x hx⟩⟩, hl⟩, fun x hx => h2 x hx⟩

end

/-- The determinant of all columns is that of the problem renumbered. -/
theorem ren_det {p : Prob} {l : List Int} (h : (renRes p l).2 = 0) : l.length ≤ 5 ∧ ∃ x, deRes p (((2 ^ l.length : Nat) : Int) - 1) = (x, 0) ∧ deRes (renRes p l).1 (((2 ^ l.length : Nat) : Int) - 1) = (x, 0) := by
  unfold renRes at h ⊢
  cases hp : isProb p with
  | false => rw [hp] at h; cases h
  | true =>
  cases ho : isOrd p.2.length l with
  | false => rw [hp, ho] at h; cases h
  | true =>
  simp only [if_true]
  obtain ⟨o1, o2, o3⟩ := isOrd_iff.1 ho
  obtain ⟨_, ok2, ok3, ok4, ok5, ok6⟩ := isProb_rows hp
  have hlen := probPut_len p l p.1.length
  have hin := probPut_in (l := l) (fun r hr => (ok5 r hr).2) ok6 p.1.length
  have hp2 : isProb (probPut p l p.1.length) = true := isProb_mk (by omega) (by omega) (by omega) (fun r hr => by rw [hlen.1]; exact probPut_rows (fun r hr => (ok5 r hr).1) _ r hr) hin.1 hin.2
  have hq2 : (probPut p l p.1.length).2.length = p.2.length := hlen.2
  have hpow : 1 ≤ 2 ^ p.2.length := Nat.one_le_two_pow
  have hcode : ∀ q : Prob, isProb q = true → q.2.length = p.2.length → deRes q (((2 ^ l.length : Nat) : Int) - 1) = (det p.2.length (mAt (colL p.2.length q.1 (2 ^ p.2.length - 1))), 0) := fun q hq hl => by
    have hs : setC q (((2 ^ l.length : Nat) : Int) - 1) = 0 := by
      unfold setC
      rw [if_pos hq, if_pos (by rw [inR_iff, hl, o1]; generalize 2 ^ p.2.length = z at *; omega)]
    have e : (((2 ^ l.length : Nat) : Int) - 1).toNat = 2 ^ p.2.length - 1 := by rw [o1]; generalize 2 ^ p.2.length = z at *; omega
    unfold deRes
    rw [if_pos hs, hl, e]
  refine ⟨by omega, _, hcode p hp rfl, ?_⟩
  rw [hcode _ hp2 hq2]
  have hn : p.1.length = p.2.length := ok4.symm
  have hnd : ∀ i j, i < p.2.length → j < p.2.length → (l.getD i 0).toNat = (l.getD j 0).toNat → i = j := fun i j hi hj e => by
    have hil : i < l.length := by omega
    have hjl : j < l.length := by omega
    rw [atD hil, atD hjl] at e
    have a1 := o3 _ (List.getElem_mem hil)
    have a2 := o3 _ (List.getElem_mem hjl)
    exact (List.getElem_inj o2).1 (show l[i] = l[j] by omega)
  have htn : ∀ i, i < p.2.length → (l.getD i 0).toNat < p.2.length := fun i hi => by
    have hil : i < l.length := by omega
    rw [atD hil]
    have a1 := o3 _ (List.getElem_mem hil)
    omega
  congr 1
  refine (perm_det (p := probPut p l p.1.length) (p' := p) (t := fun i => (l.getD i 0).toNat) hnd htn (fun i j hi hj => ?_) fun i hi => ?_).symm
  · rw [hn]
    exact (probPut_at (fun i => (l.getD i 0).toNat) (fun i _ => rfl) hnd htn hn (fun r hr => by rw [(ok5 r hr).1, hn]) p.2.length (Nat.le_refl _) i hi j hj).symm
  · rw [Nat.testBit_two_pow_sub_one, Nat.testBit_two_pow_sub_one, decide_eq_true hi, decide_eq_true (htn i hi)]

end Go.Proofs.YtgdiebnokgnniaaGreatDoor
