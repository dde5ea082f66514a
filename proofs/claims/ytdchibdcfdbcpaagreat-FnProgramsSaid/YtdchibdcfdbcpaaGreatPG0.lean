/- Least values of convex programs: places, multipliers, values, and no place with a lesser value. The facts of FnPrograms. No condition. -/
import Derived.Test.YtdchibdcfdbcpaaGreatDU0
import Derived.Test.YtdchibdcfdbcpaaGreatGYY
import Derived.Test.YtdchibdcfdbcpaaGreatGQQ
import Derived.Test.YtdchibdcfdbcpaaGreatGFF
import Derived.Test.YtdchibdcfdbcpaaGreatZabPsd
namespace Go.Proofs.YtdchibdcfdbcpaaGreat
open Go.Ab

/-- What a least value is told by: numbers z with a common denominator D, and what remains. -/
structure Best (g : Prg) (z w : Nat → Int) (D : Int) : Prop where
  prg : IsPrg g
  semi : semiL g.2.1.length g.1 = true
  pos : 0 < D
  row : ∀ i, i < nOf g → w i = (prgProblem g).2.getD i 0 * D + Go.Ab.sumTo (nOf g) fun j => mAt (prgProblem g).1 i j * z j
  ok : ∀ i, i < nOf g → 0 ≤ z i ∧ 0 ≤ w i ∧ z i * w i = 0
  x : (moRes g).1 = (List.range g.2.1.length).map fun i => frac (z i) D
  y : (moRes g).2.1 = (List.range g.2.2.2.length).map fun j => frac (z (g.2.1.length + j)) D
  fr : Frs ((moRes g).1 ++ (moRes g).2.1)
  v : (moRes g).2.2.1 = frac ((Go.Ab.sumTo g.2.1.length fun i => g.2.1.getD i 0 * z i) + Go.Ab.sumTo g.2.2.2.length fun j => g.2.2.2.getD j 0 * z (g.2.1.length + j)) (2 * D)
  vf : isFr 1000000000 (moRes g).2.2.1 = true

theorem mo_best {g : Prg} (h : (moRes g).2.2.2 = 0) : ∃ z w D, Best g z w D := by
  obtain ⟨hp, s, s1, s2, _, em, e1, e2, ev⟩ := mo_zero h
  have hsemi : semiL g.2.1.length g.1 = true := by
    refine Classical.byContradiction fun q => ?_
    unfold moRes at h
    rw [if_pos hp, if_neg q] at h
    cases h
  obtain ⟨b1, b2⟩ := mcB_iff.1 s2
  have hD : 0 < moD g s := by unfold moD; omega
  have efr : (frAll (moZ g s) (moD g s)).1 = (moZ g s).map fun n => frac n (moD g s) := by
    have hall : ∀ n ∈ moZ g s, (fracT n (moD g s)).2 = 0 := fun n hn => by
      unfold frAll at e1
      split at e1
      · rename_i c
        exact of_decide_eq_true (List.all_eq_true.1 c n hn)
      · cases e1
    rw [frAll_ok fun i hi => hall _ (List.getElem_mem hi)]
    exact List.map_congr_left fun n hn => (fracT_good (hall n hn)).2
  have hfs : ∀ n ∈ moZ g s, isFr 1000000000 (frac n (moD g s)) = true := fun n hn => by
    unfold frAll at e1
    split at e1
    · rename_i c
      exact (fracT_good (of_decide_eq_true (List.all_eq_true.1 c n hn))).1
    · cases e1
  have hl : (moZ g s).length = g.2.1.length + g.2.2.2.length := moZ_len g s
  have hx : (moRes g).1 = ((moZ g s).map fun n => frac n (moD g s)).take g.2.1.length := by
    rw [em, ← efr]
    unfold moAt
    rw [if_pos e1, if_pos e2]
  have hy : (moRes g).2.1 = ((moZ g s).map fun n => frac n (moD g s)).drop g.2.1.length := by
    rw [em, ← efr]
    unfold moAt
    rw [if_pos e1, if_pos e2]
  have es : moSum g (moZ g s) = (Go.Ab.sumTo g.2.1.length fun i => g.2.1.getD i 0 * (moZ g s).getD i 0) + Go.Ab.sumTo g.2.2.2.length fun j => g.2.2.2.getD j 0 * (moZ g s).getD (g.2.1.length + j) 0 := by
    unfold moSum dot
    rw [sum_same, sum_same]
    congr 1
    · refine Go.Ab.sumTo_congr fun i hi => ?_
      show g.2.1.getD i 0 * ((moZ g s).take g.2.1.length).getD i 0 = _
      congr 1
      simp [List.getD_eq_getElem?_getD, hi]
    · refine Go.Ab.sumTo_congr fun i hi => ?_
      show g.2.2.2.getD i 0 * ((moZ g s).drop g.2.1.length).getD i 0 = _
      congr 1
      simp [List.getD_eq_getElem?_getD]
  refine ⟨fun i => (moZ g s).getD i 0, fun i => if s.testBit i then 0 else (ptOf (nOf g) (prgProblem g) s).getD i 0, moD g s, hp, hsemi, hD, fun i hi => ?_, fun i hi => ?_, ?_, ?_, ?_, by rw [ev, es], by rw [ev]; exact (fracT_good e2).1⟩
  · have r := pt_row (n := nOf g) (p := prgProblem g) (s := s) hi
    have e : Go.Ab.sumTo (nOf g) (fun j => mAt (prgProblem g).1 i j * (moZ g s).getD j 0) = Go.Ab.sumTo (nOf g) fun c => mAt (prgProblem g).1 i c * (if s.testBit c then (ptOf (nOf g) (prgProblem g) s).getD c 0 else 0) := Go.Ab.sumTo_congr fun j hj => by rw [moZ_at hj]
    rw [e]
    unfold moD
    omega
  · rw [moZ_at hi]
    have := b2 i hi
    cases s.testBit i <;> simp <;> exact this
  · rw [hx]
    apply List.ext_getElem
    · simp; omega
    · intro i h1 h2
      have : i < (moZ g s).length := by simp at h1; omega
      simp [List.getD_eq_getElem?_getD, this]
  · rw [hy]
    apply List.ext_getElem
    · simp; omega
    · intro i h1 h2
      have : g.2.1.length + i < (moZ g s).length := by simp at h1; omega
      simp [List.getD_eq_getElem?_getD, this]
  · intro a ha
    rw [hx, hy, List.take_append_drop] at ha
    obtain ⟨n, hn, rfl⟩ := List.mem_map.1 ha
    exact hfs n hn

theorem dot_row {r x : List Int} {n : Nat} (h : r.length = n) : dot r x = Go.Ab.sumTo n fun i => r.getD i 0 * x.getD i 0 := by
  unfold dot
  rw [sum_same, h]

theorem form_bil {g : Prg} (hp : IsPrg g) (x y : List Int) : formV g.1 x y = bil g.2.1.length (mAt g.1) (fun i => x.getD i 0) fun i => y.getD i 0 := by
  unfold formV bil
  rw [sum_same, hp.dl]
  refine Go.Ab.sumTo_congr fun i hi => ?_
  have : i < g.1.length := by have := hp.dl; omega
  rw [dot_row (n := g.2.1.length) (by rw [getD_row this]; exact (hp.d _ (List.getElem_mem this)).1)]

theorem dot_a {g : Prg} (hp : IsPrg g) (x : List Int) {j : Nat} (hj : j < g.2.2.2.length) : dot (g.2.2.1.getD j []) x = Go.Ab.sumTo g.2.1.length fun l => mAt g.2.2.1 j l * x.getD l 0 := by
  have : j < g.2.2.1.length := by have := hp.al; omega
  rw [dot_row (n := g.2.1.length) (by rw [getD_row this]; exact (hp.a _ (List.getElem_mem this)).1)]

theorem prg_sym {g : Prg} (hp : IsPrg g) {i j : Nat} (hi : i < g.2.1.length) (hj : j < g.2.1.length) : mAt g.1 i j = mAt g.1 j i := by
  have hdl := hp.dl
  have h1 : i < g.1.length := by omega
  have h2 : j < g.1.length := by omega
  have l1 := (hp.d _ (List.getElem_mem h1)).1
  have l2 := (hp.d _ (List.getElem_mem h2)).1
  unfold mAt
  rw [getD_row h1, getD_row h2, atD (by omega), atD (by omega)]
  exact hp.sym i j h1 h2 (by omega) (by omega)

theorem prg_psd {g : Prg} (hp : IsPrg g) (hs : semiL g.2.1.length g.1 = true) (x : Nat → Int) : 0 ≤ bil g.2.1.length (mAt g.1) x x := by
  have h1 : PSm g.2.1.length (mAt (symL g.2.1.length g.1)) := PSm_of fun s hs2 => by
    unfold semiL minorsL at hs
    rw [List.all_eq_true] at hs
    exact of_decide_eq_true (hs _ (List.mem_map.2 ⟨s, by simpa using hs2, rfl⟩))
  have e : ∀ i j, i < g.2.1.length → j < g.2.1.length → mAt (symL g.2.1.length g.1) i j = 2 * mAt g.1 i j := fun i j hi hj => by
    unfold symL
    rw [tabL_at hi hj, prg_sym hp hj hi]
    omega
  have h2 := h1.form (fun i j hi hj => by rw [e i j hi hj, e j i hj hi, prg_sym hp hi hj]) x
  have e2 : bil g.2.1.length (mAt (symL g.2.1.length g.1)) x x = 2 * bil g.2.1.length (mAt g.1) x x := by
    unfold bil
    rw [← Go.Ab.sumTo_mul]
    refine Go.Ab.sumTo_congr fun i hi => ?_
    rw [show 2 * (x i * Go.Ab.sumTo g.2.1.length fun j => mAt g.1 i j * x j) = x i * (2 * Go.Ab.sumTo g.2.1.length fun j => mAt g.1 i j * x j) by ac_rfl, ← Go.Ab.sumTo_mul (c := 2)]
    congr 1
    refine Go.Ab.sumTo_congr fun j hj => ?_
    rw [e i j hi hj]
    ac_rfl
  omega

section
variable {g : Prg} {z w : Nat → Int} {D : Int}

theorem Best.up (h : Best g z w D) {i : Nat} (hi : i < g.2.1.length) : w i = g.2.1.getD i 0 * D + (Go.Ab.sumTo g.2.1.length fun l => mAt g.1 i l * z l) - Go.Ab.sumTo g.2.2.2.length fun j => mAt g.2.2.1 j i * z (g.2.1.length + j) := by
  have hp := h.prg
  have hn : nOf g = g.2.1.length + g.2.2.2.length := rfl
  rw [h.row i (by omega), pq_at, if_pos hi, hn, sum_split]
  have e1 : Go.Ab.sumTo g.2.1.length (fun j => mAt (prgProblem g).1 i j * z j) = Go.Ab.sumTo g.2.1.length fun l => mAt g.1 i l * z l := Go.Ab.sumTo_congr fun l hl => by
    rw [pm_at hp (by omega) (by omega), if_pos hi, if_pos hl]
  have e2 : Go.Ab.sumTo g.2.2.2.length (fun j => mAt (prgProblem g).1 i (g.2.1.length + j) * z (g.2.1.length + j)) = -(Go.Ab.sumTo g.2.2.2.length fun j => mAt g.2.2.1 j i * z (g.2.1.length + j)) := by
    rw [← Go.Ab.sumTo_neg]
    refine Go.Ab.sumTo_congr fun j hj => ?_
    rw [pm_at hp (by omega) (by omega), if_pos hi, if_neg (by omega), Int.neg_mul, show g.2.1.length + j - g.2.1.length = j by omega]
  rw [e1, e2]
  omega

theorem Best.down (h : Best g z w D) {j : Nat} (hj : j < g.2.2.2.length) : w (g.2.1.length + j) = (Go.Ab.sumTo g.2.1.length fun l => mAt g.2.2.1 j l * z l) - g.2.2.2.getD j 0 * D := by
  have hp := h.prg
  have hn : nOf g = g.2.1.length + g.2.2.2.length := rfl
  rw [h.row _ (by omega), pq_at, if_neg (by omega), show g.2.1.length + j - g.2.1.length = j by omega, hn, sum_split]
  have e1 : Go.Ab.sumTo g.2.1.length (fun l => mAt (prgProblem g).1 (g.2.1.length + j) l * z l) = Go.Ab.sumTo g.2.1.length fun l => mAt g.2.2.1 j l * z l := Go.Ab.sumTo_congr fun l hl => by
    rw [pm_at hp (by omega) (by omega), if_neg (by omega), if_pos hl, show g.2.1.length + j - g.2.1.length = j by omega]
  have e2 : Go.Ab.sumTo g.2.2.2.length (fun k => mAt (prgProblem g).1 (g.2.1.length + j) (g.2.1.length + k) * z (g.2.1.length + k)) = 0 := Go.Ab.sumTo_zero fun k hk => by
    rw [pm_at hp (by omega) (by omega), if_neg (by omega), if_neg (by omega), Int.zero_mul]
  rw [e1, e2, Int.neg_mul]
  omega

/-- The sum of all y A x. -/
def yAx (g : Prg) (z x : Nat → Int) : Int := Go.Ab.sumTo g.2.2.2.length fun j => z (g.2.1.length + j) * Go.Ab.sumTo g.2.1.length fun l => mAt g.2.2.1 j l * x l

theorem Best.mulU (h : Best g z w D) (x : Nat → Int) : (Go.Ab.sumTo g.2.1.length fun i => x i * w i) = D * (Go.Ab.sumTo g.2.1.length fun i => g.2.1.getD i 0 * x i) + bil g.2.1.length (mAt g.1) x z - yAx g z x := by
  have e : (Go.Ab.sumTo g.2.1.length fun i => Go.Ab.sumTo g.2.2.2.length fun j => x i * (mAt g.2.2.1 j i * z (g.2.1.length + j))) = yAx g z x := by
    unfold yAx
    rw [Go.Ab.sumTo_swap]
    refine Go.Ab.sumTo_congr fun j _ => ?_
    rw [← Go.Ab.sumTo_mul]
    refine Go.Ab.sumTo_congr fun i _ => ?_
    ac_rfl
  rw [← e]
  unfold bil
  rw [← Go.Ab.sumTo_mul, ← Go.Ab.sumTo_add, show ∀ a b : Int, a - b = a + -b from fun _ _ => rfl, ← Go.Ab.sumTo_neg, ← Go.Ab.sumTo_add]
  refine Go.Ab.sumTo_congr fun i hi => ?_
  rw [h.up hi, Go.Ab.sumTo_mul, Int.mul_sub, Int.mul_add]
  rw [show x i * (g.2.1.getD i 0 * D) = D * (g.2.1.getD i 0 * x i) by ac_rfl]
  rfl

theorem Best.mulV (h : Best g z w D) : yAx g z z = D * Go.Ab.sumTo g.2.2.2.length fun j => g.2.2.2.getD j 0 * z (g.2.1.length + j) := by
  have hn : nOf g = g.2.1.length + g.2.2.2.length := rfl
  unfold yAx
  rw [← Go.Ab.sumTo_mul]
  refine Go.Ab.sumTo_congr fun j hj => ?_
  have e := h.down hj
  have z0 := (h.ok (g.2.1.length + j) (by omega)).2.2
  rw [e, Int.mul_sub] at z0
  rw [show D * (g.2.2.2.getD j 0 * z (g.2.1.length + j)) = z (g.2.1.length + j) * (g.2.2.2.getD j 0 * D) by ac_rfl]
  omega

/-- The form at z, and the value. -/
theorem Best.form (h : Best g z w D) : bil g.2.1.length (mAt g.1) z z + D * (Go.Ab.sumTo g.2.1.length fun i => g.2.1.getD i 0 * z i) = D * Go.Ab.sumTo g.2.2.2.length fun j => g.2.2.2.getD j 0 * z (g.2.1.length + j) := by
  have hn : nOf g = g.2.1.length + g.2.2.2.length := rfl
  have h1 := h.mulU z
  rw [h.mulV] at h1
  have h0 : (Go.Ab.sumTo g.2.1.length fun i => z i * w i) = 0 := Go.Ab.sumTo_zero fun i hi => (h.ok i (by omega)).2.2
  omega

theorem bil_mix {n : Nat} {A : Mat} (hs : ∀ i j, i < n → j < n → A i j = A j i) (D : Int) (x z : Nat → Int) : bil n A (fun i => D * x i - z i) (fun i => D * x i - z i) = D * D * bil n A x x - 2 * (D * bil n A x z) + bil n A z z := by
  have hsw : bil n A z x = bil n A x z := by
    unfold bil
    have e1 : (Go.Ab.sumTo n fun i => z i * Go.Ab.sumTo n fun j => A i j * x j) = Go.Ab.sumTo n fun i => Go.Ab.sumTo n fun j => z i * (A i j * x j) := Go.Ab.sumTo_congr fun i _ => Go.Ab.sumTo_mul.symm
    rw [e1, Go.Ab.sumTo_swap]
    refine Go.Ab.sumTo_congr fun j hj => ?_
    rw [← Go.Ab.sumTo_mul]
    refine Go.Ab.sumTo_congr fun i hi => ?_
    rw [hs i j hi hj]
    ac_rfl
  have e : bil n A (fun i => D * x i - z i) (fun i => D * x i - z i) = D * D * bil n A x x - D * bil n A x z - D * bil n A z x + bil n A z z := by
    unfold bil
    rw [show ∀ a b c d : Int, a - b - c + d = a + (-b + (-c + d)) by intros; omega, ← Go.Ab.sumTo_mul, ← Go.Ab.sumTo_mul, ← Go.Ab.sumTo_mul, ← Go.Ab.sumTo_neg, ← Go.Ab.sumTo_neg, ← Go.Ab.sumTo_add, ← Go.Ab.sumTo_add, ← Go.Ab.sumTo_add]
    refine Go.Ab.sumTo_congr fun i _ => ?_
    have e2 : (Go.Ab.sumTo n fun j => A i j * (D * x j - z j)) = D * (Go.Ab.sumTo n fun j => A i j * x j) - Go.Ab.sumTo n fun j => A i j * z j := by
      rw [show ∀ a b : Int, a - b = a + -b from fun _ _ => rfl, ← Go.Ab.sumTo_mul, ← Go.Ab.sumTo_neg, ← Go.Ab.sumTo_add]
      refine Go.Ab.sumTo_congr fun j _ => ?_
      rw [Int.mul_sub, show A i j * (D * x j) = D * (A i j * x j) by ac_rfl]
      rfl
    rw [e2]
    generalize (Go.Ab.sumTo n fun j => A i j * x j) = P
    generalize (Go.Ab.sumTo n fun j => A i j * z j) = R
    grind
  rw [e, hsw]
  omega

/-- No place has a lesser value. -/
theorem Best.least (h : Best g z w D) {x : List Int} (hx : ∀ a ∈ x, 0 ≤ a) (hA : ∀ j, j < g.2.2.2.length → g.2.2.2.getD j 0 ≤ dot (g.2.2.1.getD j []) x) :
    (Go.Ab.sumTo g.2.1.length fun i => g.2.1.getD i 0 * z i) + (Go.Ab.sumTo g.2.2.2.length fun j => g.2.2.2.getD j 0 * z (g.2.1.length + j)) ≤ D * vaNum g x 1 := by
  have hn : nOf g = g.2.1.length + g.2.2.2.length := rfl
  have hp := h.prg
  have hD := h.pos
  have x0 : ∀ i, 0 ≤ x.getD i 0 := fun i => by
    simp only [List.getD_eq_getElem?_getD]
    cases e : x[i]? with
    | none => simp
    | some a => exact hx a (List.mem_of_getElem? e)
  have q := prg_psd hp h.semi fun i => D * x.getD i 0 - z i
  rw [bil_mix (fun i j hi hj => prg_sym hp hi hj)] at q
  have u := h.mulU fun i => x.getD i 0
  have u0 : 0 ≤ Go.Ab.sumTo g.2.1.length fun i => x.getD i 0 * w i := by
    have : ∀ m, m ≤ g.2.1.length → 0 ≤ Go.Ab.sumTo m fun i => x.getD i 0 * w i := fun m => by
      induction m with
      | zero => intro _; exact Int.le_refl 0
      | succ m ih =>
        intro hm
        have h1 := ih (by omega)
        have h2 := Int.mul_nonneg (x0 m) (h.ok m (by omega)).2.1
        show 0 ≤ (Go.Ab.sumTo m fun i => x.getD i 0 * w i) + x.getD m 0 * w m
        omega
    exact this _ (Nat.le_refl _)
  have t : (Go.Ab.sumTo g.2.2.2.length fun j => g.2.2.2.getD j 0 * z (g.2.1.length + j)) ≤ yAx g z fun i => x.getD i 0 := by
    unfold yAx
    have : ∀ m, m ≤ g.2.2.2.length → (Go.Ab.sumTo m fun j => g.2.2.2.getD j 0 * z (g.2.1.length + j)) ≤ Go.Ab.sumTo m fun j => z (g.2.1.length + j) * Go.Ab.sumTo g.2.1.length fun l => mAt g.2.2.1 j l * x.getD l 0 := fun m => by
      induction m with
      | zero => intro _; exact Int.le_refl 0
      | succ m ih =>
        intro hm
        have h1 := ih (by omega)
        have h2 := hA m (by omega)
        rw [dot_a hp x (by omega)] at h2
        have h3 := Int.mul_le_mul_of_nonneg_left h2 (h.ok (g.2.1.length + m) (by omega)).1
        rw [Int.mul_comm (z _) (g.2.2.2.getD m 0)] at h3
        show (Go.Ab.sumTo m fun j => g.2.2.2.getD j 0 * z (g.2.1.length + j)) + g.2.2.2.getD m 0 * z (g.2.1.length + m) ≤ (Go.Ab.sumTo m fun j => z (g.2.1.length + j) * Go.Ab.sumTo g.2.1.length fun l => mAt g.2.2.1 j l * x.getD l 0) + z (g.2.1.length + m) * Go.Ab.sumTo g.2.1.length fun l => mAt g.2.2.1 m l * x.getD l 0
        omega
    exact this _ (Nat.le_refl _)
  have f := h.form
  have ev : vaNum g x 1 = bil g.2.1.length (mAt g.1) (fun i => x.getD i 0) (fun i => x.getD i 0) + 2 * Go.Ab.sumTo g.2.1.length fun i => g.2.1.getD i 0 * x.getD i 0 := by
    unfold vaNum
    rw [form_bil hp, dot_row rfl]
    rfl
  rw [ev]
  generalize bil g.2.1.length (mAt g.1) (fun i => x.getD i 0) (fun i => x.getD i 0) = QQ at *
  generalize bil g.2.1.length (mAt g.1) (fun i => x.getD i 0) z = R at *
  generalize bil g.2.1.length (mAt g.1) z z = ZZ at *
  generalize (Go.Ab.sumTo g.2.1.length fun i => g.2.1.getD i 0 * x.getD i 0) = cx at *
  generalize (Go.Ab.sumTo g.2.1.length fun i => g.2.1.getD i 0 * z i) = cz at *
  generalize (Go.Ab.sumTo g.2.2.2.length fun j => g.2.2.2.getD j 0 * z (g.2.1.length + j)) = bz at *
  generalize (yAx g z fun i => x.getD i 0) = T at *
  generalize (Go.Ab.sumTo g.2.1.length fun i => x.getD i 0 * w i) = U at *
  -- D D QQ + 2 D D cx is at least D (cz + bz)
  have k1 := Int.mul_nonneg (show 0 ≤ D by omega) u0
  have k2 := Int.mul_le_mul_of_nonneg_left t (show 0 ≤ D by omega)
  rw [u, Int.mul_sub, Int.mul_add] at k1
  refine Classical.byContradiction fun hlt => ?_
  have k3 : D * (D * (QQ + 2 * cx)) ≤ D * (cz + bz - 1) := Int.mul_le_mul_of_nonneg_left (by omega) (by omega)
  rw [show D * (D * (QQ + 2 * cx)) = D * D * QQ + 2 * (D * (D * cx)) by grind, show D * (cz + bz - 1) = D * cz + D * bz - D by grind] at k3
  omega

/-- The value at x is that told. -/
theorem Best.same (h : Best g z w D) {l : List Int} {d : Int} (hd : 1 ≤ d) (hl : ∀ i, i < g.2.1.length → l.getD i 0 * D = z i * d) :
    frac (vaNum g l d) (2 * d * d) = (moRes g).2.2.1 := by
  have hp := h.prg
  have hD := h.pos
  rw [h.v]
  have f := h.form
  have ev : vaNum g l d = bil g.2.1.length (mAt g.1) (fun i => l.getD i 0) (fun i => l.getD i 0) + 2 * d * Go.Ab.sumTo g.2.1.length fun i => g.2.1.getD i 0 * l.getD i 0 := by
    unfold vaNum
    rw [form_bil hp, dot_row rfl]
  have e1 : D * D * bil g.2.1.length (mAt g.1) (fun i => l.getD i 0) (fun i => l.getD i 0) = d * d * bil g.2.1.length (mAt g.1) z z := by
    unfold bil
    rw [← Go.Ab.sumTo_mul, ← Go.Ab.sumTo_mul]
    refine Go.Ab.sumTo_congr fun i hi => ?_
    have e2 : D * (Go.Ab.sumTo g.2.1.length fun j => mAt g.1 i j * l.getD j 0) = d * Go.Ab.sumTo g.2.1.length fun j => mAt g.1 i j * z j := by
      rw [← Go.Ab.sumTo_mul, ← Go.Ab.sumTo_mul]
      refine Go.Ab.sumTo_congr fun j hj => ?_
      rw [show D * (mAt g.1 i j * l.getD j 0) = mAt g.1 i j * (l.getD j 0 * D) by ac_rfl, hl j hj]
      ac_rfl
    rw [show D * D * (l.getD i 0 * Go.Ab.sumTo g.2.1.length fun j => mAt g.1 i j * l.getD j 0) = (l.getD i 0 * D) * (D * Go.Ab.sumTo g.2.1.length fun j => mAt g.1 i j * l.getD j 0) by ac_rfl, e2, hl i hi]
    ac_rfl
  have e3 : D * (Go.Ab.sumTo g.2.1.length fun i => g.2.1.getD i 0 * l.getD i 0) = d * Go.Ab.sumTo g.2.1.length fun i => g.2.1.getD i 0 * z i := by
    rw [← Go.Ab.sumTo_mul, ← Go.Ab.sumTo_mul]
    refine Go.Ab.sumTo_congr fun i hi => ?_
    rw [show D * (g.2.1.getD i 0 * l.getD i 0) = g.2.1.getD i 0 * (l.getD i 0 * D) by ac_rfl, hl i hi]
    ac_rfl
  have hdd : 0 < d * d := Int.mul_pos (by omega) (by omega)
  refine frac_alike (by rw [Int.mul_assoc]; omega) (by omega) ?_
  rw [ev]
  generalize bil g.2.1.length (mAt g.1) (fun i => l.getD i 0) (fun i => l.getD i 0) = QQ at *
  generalize bil g.2.1.length (mAt g.1) z z = ZZ at *
  generalize (Go.Ab.sumTo g.2.1.length fun i => g.2.1.getD i 0 * l.getD i 0) = cl at *
  generalize (Go.Ab.sumTo g.2.1.length fun i => g.2.1.getD i 0 * z i) = cz at *
  generalize (Go.Ab.sumTo g.2.2.2.length fun j => g.2.2.2.getD j 0 * z (g.2.1.length + j)) = bz at *
  refine Int.eq_of_mul_eq_mul_right (show D ≠ 0 by omega) ?_
  have k1 : (QQ + 2 * d * cl) * (2 * D) * D = 2 * (D * D * QQ) + 4 * d * D * (D * cl) := by grind
  have k2 : ZZ = D * bz - D * cz := by omega
  rw [k1, e1, e3, k2]
  grind

theorem Best.place (h : Best g z w D) {l : List Int} {d : Int} (hd : 1 ≤ d) (hlen : l.length = g.2.1.length) (hl : ∀ i, i < g.2.1.length → l.getD i 0 * D = z i * d) : plOK g l d := by
  have hp := h.prg
  have hD := h.pos
  have hn : nOf g = g.2.1.length + g.2.2.2.length := rfl
  have hal := hp.al
  refine ⟨fun j hj => ?_, fun a ha => ?_⟩
  · have hj2 : j < g.2.2.2.length := by omega
    rw [dot_a hp l hj2]
    have e : D * (Go.Ab.sumTo g.2.1.length fun k => mAt g.2.2.1 j k * l.getD k 0) = d * Go.Ab.sumTo g.2.1.length fun k => mAt g.2.2.1 j k * z k := by
      rw [← Go.Ab.sumTo_mul, ← Go.Ab.sumTo_mul]
      refine Go.Ab.sumTo_congr fun i hi => ?_
      rw [show D * (mAt g.2.2.1 j i * l.getD i 0) = mAt g.2.2.1 j i * (l.getD i 0 * D) by ac_rfl, hl i hi]
      ac_rfl
    have v := h.down hj2
    have v0 := (h.ok (g.2.1.length + j) (by omega)).2.1
    generalize (Go.Ab.sumTo g.2.1.length fun k => mAt g.2.2.1 j k * l.getD k 0) = P at *
    generalize (Go.Ab.sumTo g.2.1.length fun k => mAt g.2.2.1 j k * z k) = R at *
    generalize g.2.2.2.getD j 0 = b at *
    have k1 := Int.mul_le_mul_of_nonneg_left (show b * D ≤ R by omega) (show 0 ≤ d by omega)
    rw [← e] at k1
    refine Int.le_of_mul_le_mul_left ?_ hD
    rw [show D * (b * d) = d * (b * D) by ac_rfl]
    exact k1
  · obtain ⟨i, hi, rfl⟩ := List.mem_iff_getElem.1 ha
    have e := hl i (by omega)
    rw [atD hi] at e
    have z0 := Int.mul_nonneg (h.ok i (by omega)).1 (show 0 ≤ d by omega)
    rw [← e] at z0
    exact Int.nonneg_of_mul_nonneg_left z0 hD

theorem Best.sol (h : Best g z w D) {l : List Int} {d : Int} (hd : 1 ≤ d) (hlen : l.length = nOf g) (hl : ∀ i, i < nOf g → l.getD i 0 * D = z i * d) : solV (nOf g) (prgProblem g) l d = true := by
  have hp := h.prg
  have hD := h.pos
  have hpb := prg_pb hp
  unfold solV
  refine allN_true fun i hi => okI_iff.2 ?_
  obtain ⟨z0, w0, zw⟩ := h.ok i hi
  have him : i < (prgProblem g).1.length := by rw [hpb.sq.1]; exact hi
  have edot : dot ((prgProblem g).1.getD i []) l = Go.Ab.sumTo (nOf g) fun c => mAt (prgProblem g).1 i c * l.getD c 0 := by
    rw [dot_row (n := nOf g) (by rw [getD_row him]; exact hpb.sq.2 _ (List.getElem_mem him))]
  have e : D * (Go.Ab.sumTo (nOf g) fun c => mAt (prgProblem g).1 i c * l.getD c 0) = d * Go.Ab.sumTo (nOf g) fun c => mAt (prgProblem g).1 i c * z c := by
    rw [← Go.Ab.sumTo_mul, ← Go.Ab.sumTo_mul]
    refine Go.Ab.sumTo_congr fun k hk => ?_
    rw [show D * (mAt (prgProblem g).1 i k * l.getD k 0) = mAt (prgProblem g).1 i k * (l.getD k 0 * D) by ac_rfl, hl k hk]
    ac_rfl
  have er : restN (prgProblem g) d l i * D = d * w i := by
    unfold restN
    rw [edot, h.row i hi, Int.add_mul, Int.mul_comm (Go.Ab.sumTo _ _) D, e, Int.mul_add]
    congr 1
    ac_rfl
  have el := hl i hi
  generalize restN (prgProblem g) d l i = r at *
  generalize l.getD i 0 = a at *
  have r0 : 0 ≤ r := by
    have := Int.mul_nonneg (show 0 ≤ d by omega) w0
    rw [← er] at this
    exact Int.nonneg_of_mul_nonneg_left this hD
  have a0 : 0 ≤ a := by
    have := Int.mul_nonneg z0 (show 0 ≤ d by omega)
    rw [← el] at this
    exact Int.nonneg_of_mul_nonneg_left this hD
  refine ⟨r0, a0, ?_⟩
  rintro ⟨p1, p2⟩
  have q1 := Int.mul_pos p1 hD
  have q2 := Int.mul_pos p2 hD
  have q3 := Int.mul_pos q2 q1
  rw [er, el, show z i * d * (d * w i) = z i * w i * (d * d) by ac_rfl, zw, Int.zero_mul] at q3
  omega

end

/-! ### The answers -/

theorem pg_place {g : Prg} (h : (moRes g).2.2.2 = 0) (hp : (plRes g (moRes g).1).2 = 0) : (plRes g (moRes g).1).1 = true := by
  obtain ⟨z, w, D, b⟩ := mo_best h
  have hfr : Frs (moRes g).1 := fun a ha => b.fr a (List.mem_append_left _ ha)
  have hlen : (moRes g).1.length = g.2.1.length := by rw [b.x]; simp
  unfold plRes at hp ⊢
  rw [if_pos ⟨b.prg, hfr⟩, if_pos hlen] at hp ⊢
  cases ht : tog 1000000000 1000000000000 (moRes g).1 with
  | none => rw [ht] at hp; cases hp
  | some ld =>
    obtain ⟨l, d⟩ := ld
    obtain ⟨t1, t2, t3⟩ := tog_num b.pos b.x hfr ht
    exact @decide_eq_true _ (Classical.propDecidable _) (b.place t2 t1 t3)

theorem pg_value {g : Prg} (h : (moRes g).2.2.2 = 0) (hp : (vaRes g (moRes g).1).2 = 0) : (vaRes g (moRes g).1).1 = (moRes g).2.2.1 := by
  obtain ⟨z, w, D, b⟩ := mo_best h
  have hfr : Frs (moRes g).1 := fun a ha => b.fr a (List.mem_append_left _ ha)
  have hlen : (moRes g).1.length = g.2.1.length := by rw [b.x]; simp
  unfold vaRes at hp ⊢
  rw [if_pos ⟨b.prg, hfr⟩, if_pos hlen] at hp ⊢
  cases ht : tog 10000 10000000 (moRes g).1 with
  | none => rw [ht] at hp; cases hp
  | some ld =>
    obtain ⟨l, d⟩ := ld
    rw [ht] at hp
    obtain ⟨t1, t2, t3⟩ := tog_num b.pos b.x hfr ht
    show (fracT (vaNum g l d) (2 * d * d)).1 = _
    rw [(fracT_good hp).2]
    exact b.same t2 t3

theorem pg_stat {g : Prg} (h : (moRes g).2.2.2 = 0) (hp : (stRes g (moRes g).1 (moRes g).2.1).2 = 0) : (stRes g (moRes g).1 (moRes g).2.1).1 = true := by
  obtain ⟨z, w, D, b⟩ := mo_best h
  have hfr : Frs (moRes g).1 := fun a ha => b.fr a (List.mem_append_left _ ha)
  have hfr2 : Frs (moRes g).2.1 := fun a ha => b.fr a (List.mem_append_right _ ha)
  have hlen : (moRes g).1.length = g.2.1.length := by rw [b.x]; simp
  have hlen2 : (moRes g).2.1.length = g.2.2.2.length := by rw [b.y]; simp
  have hxy : (moRes g).1 ++ (moRes g).2.1 = (List.range (nOf g)).map fun i => frac (z i) D := by
    rw [b.x, b.y]
    show _ = (List.range (g.2.1.length + g.2.2.2.length)).map _
    rw [List.range_add, List.map_append, List.map_map]
    rfl
  unfold stRes at hp ⊢
  rw [if_pos ⟨b.prg, hfr, hfr2⟩, if_pos ⟨hlen, hlen2⟩] at hp ⊢
  cases ht : tog 1000000000 1000000000000 ((moRes g).1 ++ (moRes g).2.1) with
  | none => rw [ht] at hp; cases hp
  | some ld =>
    obtain ⟨l, d⟩ := ld
    obtain ⟨t1, t2, t3⟩ := tog_num b.pos hxy b.fr ht
    exact b.sol t2 t1 t3

end Go.Proofs.YtdchibdcfdbcpaaGreat
