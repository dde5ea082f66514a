/- Programs and their duals, scaled programs: what their least values come to. No condition. -/
import Derived.Test.YtdchibdcfdbcpaaGreatGEE
import Derived.Test.YtdchibdcfdbcpaaGreatGAA
import Derived.Test.YtdchibdcfdbcpaaGreatGLL
namespace Go.Proofs.YtdchibdcfdbcpaaGreat
open Go.Ab

theorem sum_same (f : Nat → Int) : ∀ n, sumTo f n = Go.Ab.sumTo n f
  | 0 => rfl
  | n + 1 => by
    show sumTo f n + f n = Go.Ab.sumTo n f + f n
    rw [sum_same f n]

theorem sum_split (f : Nat → Int) (a : Nat) : ∀ b, Go.Ab.sumTo (a + b) f = Go.Ab.sumTo a f + Go.Ab.sumTo b fun i => f (a + i)
  | 0 => by simp [Go.Ab.sumTo]
  | b + 1 => by
    show Go.Ab.sumTo (a + b) f + f (a + b) = Go.Ab.sumTo a f + (Go.Ab.sumTo b (fun i => f (a + i)) + f (a + b))
    rw [sum_split f a b]
    omega

theorem gD_app1 {α : Type} {d : α} {xs ys : List α} {i : Nat} (h : i < xs.length) : (xs ++ ys).getD i d = xs.getD i d := by
  simp [List.getD_eq_getElem?_getD, List.getElem?_append_left h]

theorem gD_app2 {α : Type} {d : α} {xs ys : List α} {i : Nat} (h : xs.length ≤ i) : (xs ++ ys).getD i d = ys.getD (i - xs.length) d := by
  simp [List.getD_eq_getElem?_getD, List.getElem?_append_right h]

theorem gD_neg (xs : List Int) (i : Nat) : (neg xs).getD i 0 = -(xs.getD i 0) := by
  simp only [neg, List.getD_eq_getElem?_getD, List.getElem?_map]
  cases xs[i]? <;> rfl

theorem gD_range {α : Type} {d : α} {f : Nat → α} {n i : Nat} (h : i < n) : ((List.range n).map f).getD i d = f i := by
  simp [List.getD_eq_getElem?_getD, h]

/-- The matrix of a program's problem, by places. -/
theorem pm_at {g : Prg} (hp : IsPrg g) {i j : Nat} (hi : i < nOf g) (hj : j < nOf g) : mAt (prgProblem g).1 i j = if i < g.2.1.length then (if j < g.2.1.length then mAt g.1 i j else -(mAt g.2.2.1 (j - g.2.1.length) i)) else (if j < g.2.1.length then mAt g.2.2.1 (i - g.2.1.length) j else 0) := by
  have hdl := hp.dl
  have hal := hp.al
  have hij : i < g.2.1.length + g.2.2.2.length := hi
  have hjj : j < g.2.1.length + g.2.2.2.length := hj
  unfold mAt prgProblem
  by_cases c1 : i < g.2.1.length
  · rw [if_pos c1, gD_app1 (by rw [prgTop_len]; exact c1)]
    unfold prgTop
    rw [gD_range c1]
    have hr : (g.1.getD i []).length = g.2.1.length := by
      rw [getD_row (by omega)]
      exact (hp.d _ (List.getElem_mem _)).1
    by_cases c2 : j < g.2.1.length
    · rw [if_pos c2, gD_app1 (by omega)]
    · rw [if_neg c2, gD_app2 (by omega), hr, gD_range (by omega)]
  · rw [if_neg c1, gD_app2 (by rw [prgTop_len]; omega), prgTop_len]
    have hk : i - g.2.1.length < g.2.2.1.length := by omega
    have hr : (g.2.2.1.getD (i - g.2.1.length) []).length = g.2.1.length := by
      rw [getD_row hk]
      exact (hp.a _ (List.getElem_mem _)).1
    have e : (prgLow g g.2.2.1.length).getD (i - g.2.1.length) [] = g.2.2.1.getD (i - g.2.1.length) [] ++ List.replicate g.2.2.2.length 0 := by
      unfold prgLow
      rw [List.take_length]
      simp [List.getD_eq_getElem?_getD, List.getElem?_eq_getElem hk]
    rw [e]
    by_cases c2 : j < g.2.1.length
    · rw [if_pos c2, gD_app1 (by omega)]
    · rw [if_neg c2, gD_app2 (by omega), hr]
      simp [List.getD_eq_getElem?_getD, List.getElem?_replicate, show j - g.2.1.length < g.2.2.2.length by omega]

theorem pq_at {g : Prg} (i : Nat) : (prgProblem g).2.getD i 0 = if i < g.2.1.length then g.2.1.getD i 0 else -(g.2.2.2.getD (i - g.2.1.length) 0) := by
  unfold prgProblem
  by_cases c1 : i < g.2.1.length
  · rw [if_pos c1, gD_app1 c1]
  · rw [if_neg c1, gD_app2 (by omega), gD_neg]

/-- z of a set. -/
theorem moZ_at {g : Prg} {s i : Nat} (hi : i < nOf g) : (moZ g s).getD i 0 = if s.testBit i then (ptOf (nOf g) (prgProblem g) s).getD i 0 else 0 := by
  unfold moZ onlyL
  rw [gD_range hi]

theorem mcB_iff {n : Nat} {p : Prob} {s : Nat} : mcB n p s = true ↔ det n (mAt (colL n p.1 s)) ≠ 0 ∧ ∀ i, i < n → 0 ≤ (ptOf n p s).getD i 0 := by
  unfold mcB
  rw [Bool.and_eq_true, decide_eq_true_iff, List.all_eq_true]
  have hl : (ptOf n p s).length = n := ptOf_len s
  constructor
  · rintro ⟨h1, h2⟩
    refine ⟨h1, fun i hi => ?_⟩
    rw [atD (by omega)]
    exact of_decide_eq_true (h2 _ (List.getElem_mem (by omega)))
  · rintro ⟨h1, h2⟩
    refine ⟨h1, fun x hx => ?_⟩
    obtain ⟨i, hi, rfl⟩ := List.mem_iff_getElem.1 hx
    rw [← atD hi]
    exact decide_eq_true (h2 i (by omega))

/-! ### The dual -/

theorem neg_neg (l : List Int) : neg (neg l) = l := by
  unfold neg
  rw [List.map_map]
  conv => rhs; rw [← List.map_id l]
  exact List.map_congr_left fun x _ => Int.neg_neg x

/-- The blocks exchanged. -/
def duT (g : Prg) (i : Nat) : Nat := if i < g.2.2.2.length then i + g.2.1.length else i - g.2.2.2.length

/-! ### The answers -/

theorem frac_alike {x y a b : Int} (ha : 0 < a) (hb : 0 < b) (h : x * b = y * a) : frac x a = frac y b := by
  have p1 := frac_pos (n := x) (d := a) (by omega)
  have p2 := frac_pos (n := y) (d := b) (by omega)
  have m1 := frac_mul (n := x) (d := a) (by omega)
  have m2 := frac_mul (n := y) (d := b) (by omega)
  refine (frac_cross (by omega) (by omega) (frac_gcd (by omega)) (frac_gcd (by omega))).1 ?_
  generalize frac x a = u at *
  generalize frac y b = v at *
  have : u.1 * v.2 * (a * b) = v.1 * u.2 * (a * b) := by
    rw [show u.1 * v.2 * (a * b) = u.1 * a * (v.2 * b) by ac_rfl, m1, show v.1 * u.2 * (a * b) = v.1 * b * (u.2 * a) by ac_rfl, m2, show x * u.2 * (v.2 * b) = x * b * (u.2 * v.2) by ac_rfl, h]
    ac_rfl
  exact Int.eq_of_mul_eq_mul_right (Int.mul_ne_zero (by omega) (by omega)) this

theorem fracT_good {m d : Int} (h : (fracT m d).2 = 0) : isFr 1000000000 (frac m d) = true ∧ (fracT m d).1 = frac m d := by
  unfold fracT at h ⊢
  split at h
  · rename_i g
    rw [if_pos g]
    exact ⟨g, rfl⟩
  · cases h

theorem frAll_code1 (l : List Int) (d : Int) : (frAll l d).2 = 0 ∨ (frAll l d).2 = 3 := by
  unfold frAll
  split
  · exact .inl rfl
  · exact .inr rfl

theorem mo_zero {g : Prg} (h : (moRes g).2.2.2 = 0) : IsPrg g ∧ ∃ s, s < 2 ^ nOf g ∧ mcB (nOf g) (prgProblem g) s = true ∧ (∀ j, j < s → mcB (nOf g) (prgProblem g) j = false) ∧ moRes g = moAt g s ∧ (frAll (moZ g s) (moD g s)).2 = 0 ∧ (fracT (moSum g (moZ g s)) (2 * moD g s)).2 = 0 ∧ (moRes g).2.2.1 = frac (moSum g (moZ g s)) (2 * moD g s) := by
  have e := h
  unfold moRes at h
  split at h
  · rename_i hp
    split at h
    · rename_i hs
      cases hf : (List.range (2 ^ nOf g)).find? (mcB (nOf g) (prgProblem g)) with
      | none => rw [hf] at h; cases h
      | some s =>
        obtain ⟨f1, f2, f3⟩ := List.find?_range_eq_some.1 hf
        have f2 := List.mem_range.1 f2
        have hb : ∀ j, j < s → mcB (nOf g) (prgProblem g) j = false := fun j hj => by have := f3 j hj; simpa using this
        have em := moRes_some hp hs f2 f1 hb
        rw [em] at e
        have : (frAll (moZ g s) (moD g s)).2 = 0 ∧ (fracT (moSum g (moZ g s)) (2 * moD g s)).2 = 0 ∧ (moAt g s).2.2.1 = (fracT (moSum g (moZ g s)) (2 * moD g s)).1 := by
          unfold moAt at e ⊢
          split at e
          · rename_i c1
            split at e
            · rename_i c2
              rw [if_pos c1, if_pos c2]
              exact ⟨c1, c2, rfl⟩
            · rename_i c2
              exact absurd e c2
          · rename_i c1
            exact absurd e c1
        refine ⟨hp, s, f2, f1, hb, em, this.1, this.2.1, ?_⟩
        rw [em, this.2.2]
        exact (fracT_good this.2.1).2
    · cases h
  · cases h

end Go.Proofs.YtdchibdcfdbcpaaGreat
