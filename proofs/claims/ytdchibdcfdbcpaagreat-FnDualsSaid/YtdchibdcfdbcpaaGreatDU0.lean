/- Programs and their duals, scaled programs: what their least values come to. No condition. -/
import Derived.Test.YtdchibdcfdbcpaaGreatGEE
import Derived.Test.YtdchibdcfdbcpaaGreatGAA
import Derived.Test.YtdchibdcfdbcpaaGreatGLL
namespace Go.Proofs.YtdchibdcfdbcpaaGreat
open Go.Ab

theorem sum_same (f : Nat → Int) : ∀ n, sumTo f n = Go.Ab.sumTo n f
  | 0 => rfl
  | n + 1 => by
    show sumTo f n + f n = Go.Ab.sumTo n f + f n
    rw [sum_same f n]

theorem sum_split (f : Nat → Int) (a : Nat) : ∀ b, Go.Ab.sumTo (a + b) f = Go.Ab.sumTo a f + Go.Ab.sumTo b fun i => f (a + i)
  | 0 => by simp [Go.Ab.sumTo]
  | b + 1 => by
    show Go.Ab.sumTo (a + b) f + f (a + b) = Go.Ab.sumTo a f + (Go.Ab.sumTo b (fun i => f (a + i)) + f (a + b))
    rw [sum_split f a b]
    omega

theorem gD_app1 {α : Type} {d : α} {xs ys : List α} {i : Nat} (h : i < xs.length) : (xs ++ ys).getD i d = xs.getD i d := by
  simp [List.getD_eq_getElem?_getD, List.getElem?_append_left h]

theorem gD_app2 {α : Type} {d : α} {xs ys : List α} {i : Nat} (h : xs.length ≤ i) : (xs ++ ys).getD i d = ys.getD (i - xs.length) d := by
  simp [List.getD_eq_getElem?_getD, List.getElem?_append_right h]

theorem gD_neg (xs : List Int) (i : Nat) : (neg xs).getD i 0 = -(xs.getD i 0) := by
  simp only [neg, List.getD_eq_getElem?_getD, List.getElem?_map]
  cases xs[i]? <;> rfl

theorem gD_range {α : Type} {d : α} {f : Nat → α} {n i : Nat} (h : i < n) : ((List.range n).map f).getD i d = f i := by
  simp [List.getD_eq_getElem?_getD, h]

/-- The matrix of a program's problem, by places. -/
theorem pm_at {g : Prg} (hp : IsPrg g) {i j : Nat} (hi : i < nOf g) (hj : j < nOf g) : mAt (prgProblem g).1 i j = if i < g.2.1.length then (if j < g.2.1.length then mAt g.1 i j else -(mAt g.2.2.1 (j - g.2.1.length) i)) else (if j < g.2.1.length then mAt g.2.2.1 (i - g.2.1.length) j else 0) := by
  have hdl := hp.dl
  have hal := hp.al
  have hij : i < g.2.1.length + g.2.2.2.length := hi
  have hjj : j < g.2.1.length + g.2.2.2.length := hj
  unfold mAt prgProblem
  by_cases c1 : i < g.2.1.length
  · rw [if_pos c1, gD_app1 (by rw [prgTop_len]; exact c1)]
    unfold prgTop
    rw [gD_range c1]
    have hr : (g.1.getD i []).length = g.2.1.length := by
      rw [getD_row (by omega)]
      exact (hp.d _ (List.getElem_mem _)).1
    by_cases c2 : j < g.2.1.length
    · rw [if_pos c2, gD_app1 (by omega)]
    · rw [if_neg c2, gD_app2 (by omega), hr, gD_range (by omega)]
  · rw [if_neg c1, gD_app2 (by rw [prgTop_len]; omega), prgTop_len]
    have hk : i - g.2.1.length < g.2.2.1.length := by omega
    have hr : (g.2.2.1.getD (i - g.2.1.length) []).length = g.2.1.length := by
      rw [getD_row hk]
      exact (hp.a _ (List.getElem_mem _)).1
    have e : (prgLow g g.2.2.1.length).getD (i - g.2.1.length) [] = g.2.2.1.getD (i - g.2.1.length) [] ++ List.replicate g.2.2.2.length 0 := by
      unfold prgLow
      rw [List.take_length]
      simp [List.getD_eq_getElem?_getD, List.getElem?_eq_getElem hk]
    rw [e]
    by_cases c2 : j < g.2.1.length
    · rw [if_pos c2, gD_app1 (by omega)]
    · rw [if_neg c2, gD_app2 (by omega), hr]
      simp [List.getD_eq_getElem?_getD, List.getElem?_replicate, show j - g.2.1.length < g.2.2.2.length by omega]

theorem pq_at {g : Prg} (i : Nat) : (prgProblem g).2.getD i 0 = if i < g.2.1.length then g.2.1.getD i 0 else -(g.2.2.2.getD (i - g.2.1.length) 0) := by
  unfold prgProblem
  by_cases c1 : i < g.2.1.length
  · rw [if_pos c1, gD_app1 c1]
  · rw [if_neg c1, gD_app2 (by omega), gD_neg]

/-- z of a set. -/
theorem moZ_at {g : Prg} {s i : Nat} (hi : i < nOf g) : (moZ g s).getD i 0 = if s.testBit i then (ptOf (nOf g) (prgProblem g) s).getD i 0 else 0 := by
  unfold moZ onlyL
  rw [gD_range hi]

theorem moSum_at {g : Prg} {z : List Int} (hz : z.length = nOf g) : moSum g z = Go.Ab.sumTo (nOf g) fun i => if i < g.2.1.length then (prgProblem g).2.getD i 0 * z.getD i 0 else -((prgProblem g).2.getD i 0 * z.getD i 0) := by
  have hz2 : z.length = g.2.1.length + g.2.2.2.length := hz
  show moSum g z = Go.Ab.sumTo (g.2.1.length + g.2.2.2.length) _
  rw [sum_split]
  unfold moSum dot
  rw [sum_same, sum_same]
  congr 1
  · refine Go.Ab.sumTo_congr fun i hi => ?_
    rw [if_pos hi, pq_at, if_pos hi]
    show g.2.1.getD i 0 * (z.take g.2.1.length).getD i 0 = _
    congr 1
    simp [List.getD_eq_getElem?_getD, hi]
  · refine Go.Ab.sumTo_congr fun i hi => ?_
    rw [if_neg (by omega), pq_at, if_neg (by omega), Int.neg_mul, Int.neg_neg]
    show g.2.2.2.getD i 0 * (z.drop g.2.1.length).getD i 0 = _
    rw [show g.2.1.length + i - g.2.1.length = i by omega]
    congr 1
    simp [List.getD_eq_getElem?_getD]

theorem mcB_iff {n : Nat} {p : Prob} {s : Nat} : mcB n p s = true ↔ det n (mAt (colL n p.1 s)) ≠ 0 ∧ ∀ i, i < n → 0 ≤ (ptOf n p s).getD i 0 := by
  unfold mcB
  rw [Bool.and_eq_true, decide_eq_true_iff, List.all_eq_true]
  have hl : (ptOf n p s).length = n := ptOf_len s
  constructor
  · rintro ⟨h1, h2⟩
    refine ⟨h1, fun i hi => ?_⟩
    rw [atD (by omega)]
    exact of_decide_eq_true (h2 _ (List.getElem_mem (by omega)))
  · rintro ⟨h1, h2⟩
    refine ⟨h1, fun x hx => ?_⟩
    obtain ⟨i, hi, rfl⟩ := List.mem_iff_getElem.1 hx
    rw [← atD hi]
    exact decide_eq_true (h2 i (by omega))

/-! ### The dual -/

theorem dual_len {g : Prg} : (dualPrg g).2.1.length = g.2.2.2.length ∧ (dualPrg g).2.2.2.length = g.2.1.length ∧ (dualPrg g).2.2.1.length = g.2.1.length ∧ (dualPrg g).1.length = g.2.2.2.length := by
  simp [dualPrg, neg_length, turnM]

theorem dual_a {g : Prg} (hp : IsPrg g) {i j : Nat} (hi : i < g.2.1.length) (hj : j < g.2.2.2.length) : mAt (dualPrg g).2.2.1 i j = -(mAt g.2.2.1 j i) := by
  have hal := hp.al
  have hj2 : j < g.2.2.1.length := by omega
  unfold mAt dualPrg turnM
  dsimp only
  rw [List.map_map, gD_range hi]
  show (neg (g.2.2.1.map fun r => r.getD i 0)).getD j 0 = _
  rw [gD_neg]
  congr 1
  rw [getD_row hj2]
  simp [List.getD_eq_getElem?_getD, hj2]

theorem zeroD_at {m : List (List Int)} (h : zeroD m) (i j : Nat) : mAt m i j = 0 := by
  unfold mAt
  simp only [List.getD_eq_getElem?_getD]
  cases e1 : m[i]? with
  | none => simp
  | some r =>
    simp only [Option.getD_some]
    cases e2 : r[j]? with
    | none => simp
    | some x => exact h r (List.mem_of_getElem? e1) x (List.mem_of_getElem? e2)

theorem dual_prg {g : Prg} (hp : IsPrg g) (hm : 0 < g.2.2.2.length) : IsPrg (dualPrg g) := by
  obtain ⟨d1, d2, d3, d4⟩ := dual_len (g := g)
  have nm := hp.nm
  have n1 := hp.n1
  have hal := hp.al
  refine ⟨by omega, by omega, by omega, by omega, fun r hr => ?_, fun x hx => ?_, fun x hx => ?_, fun r hr => ?_, fun i k hi hk h1 h2 => ?_⟩
  · have := List.eq_of_mem_replicate hr
    subst this
    refine ⟨by rw [List.length_replicate, d1], fun x hx => ?_⟩
    rw [List.eq_of_mem_replicate hx]
    decide
  · simp only [dualPrg, neg, List.mem_map] at hx
    obtain ⟨y, hy, rfl⟩ := hx
    have := hp.b y hy
    omega
  · simp only [dualPrg, neg, List.mem_map] at hx
    obtain ⟨y, hy, rfl⟩ := hx
    have := hp.c y hy
    omega
  · simp only [dualPrg, turnM, List.map_map, List.mem_map, List.mem_range, Function.comp] at hr
    obtain ⟨j, hj, rfl⟩ := hr
    refine ⟨by rw [neg_length, List.length_map, d1, hal], fun x hx => ?_⟩
    simp only [neg, List.mem_map] at hx
    obtain ⟨y, ⟨r, hr, rfl⟩, rfl⟩ := hx
    have := getD_abs (a := r) (A := 20) (fun e he => by have := (hp.a r hr).2 e he; omega) j
    omega
  · have e : ∀ i k (hi : i < (dualPrg g).1.length) (h1 : k < (dualPrg g).1[i].length), (dualPrg g).1[i][k] = 0 := fun i k hi h1 => by
      simp only [dualPrg, List.getElem_replicate]
    rw [e i k hi h1, e k i hk h2]

theorem dual_zero {g : Prg} : zeroD (dualPrg g).1 := fun r hr x hx => by
  have := List.eq_of_mem_replicate hr
  subst this
  exact List.eq_of_mem_replicate hx

theorem mat_ext {a b : List (List Int)} {n : Nat} (h : a.length = b.length) (ha : ∀ r ∈ a, r.length = n) (hb : ∀ r ∈ b, r.length = n) (he : ∀ i j, i < a.length → j < n → mAt a i j = mAt b i j) : a = b := by
  apply List.ext_getElem h
  intro i h1 h2
  have l1 := ha _ (List.getElem_mem h1)
  have l2 := hb _ (List.getElem_mem h2)
  apply List.ext_getElem (by omega)
  intro j g1 g2
  have := he i j h1 (by omega)
  unfold mAt at this
  rw [getD_row h1, getD_row h2, atD g1, atD g2] at this
  exact this

theorem neg_neg (l : List Int) : neg (neg l) = l := by
  unfold neg
  rw [List.map_map]
  conv => rhs; rw [← List.map_id l]
  exact List.map_congr_left fun x _ => Int.neg_neg x

theorem dual_dual {g : Prg} (hp : IsPrg g) (hz : zeroD g.1) (hm : 0 < g.2.2.2.length) : dualPrg (dualPrg g) = g := by
  obtain ⟨d1, d2, d3, d4⟩ := dual_len (g := g)
  obtain ⟨e1, e2, e3, e4⟩ := dual_len (g := dualPrg g)
  have hq := dual_prg hp hm
  have hqq := dual_prg hq (by have := hp.n1; omega)
  have hdl := hp.dl
  have hal := hp.al
  have h1 : (dualPrg (dualPrg g)).1 = g.1 := mat_ext (n := g.2.1.length) (by omega) (fun r hr => by rw [(hqq.d r hr).1, e1, d2]) (fun r hr => (hp.d r hr).1) fun i j _ _ => by rw [zeroD_at dual_zero, zeroD_at hz]
  have h3 : (dualPrg (dualPrg g)).2.2.1 = g.2.2.1 := mat_ext (n := g.2.1.length) (by omega) (fun r hr => by rw [(hqq.a r hr).1, e1, d2]) (fun r hr => (hp.a r hr).1) fun i j hi hj => by
    rw [dual_a hq (by omega) (by omega), dual_a hp hj (by omega), Int.neg_neg]
  have h2 : (dualPrg (dualPrg g)).2.1 = g.2.1 := neg_neg _
  have h4 : (dualPrg (dualPrg g)).2.2.2 = g.2.2.2 := neg_neg _
  exact Prod.ext h1 (Prod.ext h2 (Prod.ext h3 h4))

theorem dual_n (g : Prg) : nOf (dualPrg g) = nOf g := by
  obtain ⟨d1, d2, _⟩ := dual_len (g := g)
  show (dualPrg g).2.1.length + (dualPrg g).2.2.2.length = g.2.1.length + g.2.2.2.length
  omega

/-- The blocks exchanged. -/
def duT (g : Prg) (i : Nat) : Nat := if i < g.2.2.2.length then i + g.2.1.length else i - g.2.2.2.length

theorem duT_inj (g : Prg) : Inj (nOf g) (duT g) := fun i j hi hj h => by
  have : nOf g = g.2.1.length + g.2.2.2.length := rfl
  unfold duT at h
  split at h <;> split at h <;> omega

theorem duT_lt {g : Prg} {i : Nat} (hi : i < nOf g) : duT g i < nOf g := by
  have : nOf g = g.2.1.length + g.2.2.2.length := rfl
  unfold duT
  split <;> omega

theorem duT_back {g : Prg} {i : Nat} (hi : i < nOf g) : duT g (duT (dualPrg g) i) = i := by
  obtain ⟨d1, d2, d3, d4⟩ := dual_len (g := g)
  have : nOf g = g.2.1.length + g.2.2.2.length := rfl
  unfold duT
  rw [d1, d2]
  split <;> split <;> omega

theorem du_mat {g : Prg} (hp : IsPrg g) (hz : zeroD g.1) (hm : 0 < g.2.2.2.length) {i j : Nat} (hi : i < nOf g) (hj : j < nOf g) : mAt (prgProblem (dualPrg g)).1 i j = mAt (prgProblem g).1 (duT g i) (duT g j) := by
  obtain ⟨d1, d2, d3, d4⟩ := dual_len (g := g)
  have hn : nOf g = g.2.1.length + g.2.2.2.length := rfl
  rw [pm_at (dual_prg hp hm) (by rw [dual_n]; exact hi) (by rw [dual_n]; exact hj), pm_at hp (duT_lt hi) (duT_lt hj), d1]
  unfold duT
  by_cases c1 : i < g.2.2.2.length
  · have h1 : ¬ (i + g.2.1.length < g.2.1.length) := by omega
    by_cases c2 : j < g.2.2.2.length
    · have h2 : ¬ (j + g.2.1.length < g.2.1.length) := by omega
      simp only [if_pos c1, if_pos c2, if_neg h1, if_neg h2]
      exact zeroD_at dual_zero _ _
    · have h2 : j - g.2.2.2.length < g.2.1.length := by omega
      simp only [if_pos c1, if_neg c2, if_neg h1, if_pos h2]
      rw [dual_a hp (by omega) c1, Int.neg_neg, show i + g.2.1.length - g.2.1.length = i by omega]
  · have h1 : i - g.2.2.2.length < g.2.1.length := by omega
    by_cases c2 : j < g.2.2.2.length
    · have h2 : ¬ (j + g.2.1.length < g.2.1.length) := by omega
      simp only [if_neg c1, if_pos c2, if_pos h1, if_neg h2]
      rw [dual_a hp (by omega) c2, show j + g.2.1.length - g.2.1.length = j by omega]
    · have h2 : j - g.2.2.2.length < g.2.1.length := by omega
      simp only [if_neg c1, if_neg c2, if_pos h1, if_pos h2]
      exact (zeroD_at hz _ _).symm

theorem du_q {g : Prg} {i : Nat} (hi : i < nOf g) : (prgProblem (dualPrg g)).2.getD i 0 = (prgProblem g).2.getD (duT g i) 0 := by
  obtain ⟨d1, d2, d3, d4⟩ := dual_len (g := g)
  have hn : nOf g = g.2.1.length + g.2.2.2.length := rfl
  rw [pq_at, pq_at, d1]
  unfold duT
  by_cases c1 : i < g.2.2.2.length
  · rw [if_pos c1, if_pos c1, if_neg (by omega), show i + g.2.1.length - g.2.1.length = i by omega]
    exact gD_neg _ _
  · rw [if_neg c1, if_neg c1, if_pos (by omega)]
    show -((neg g.2.1).getD _ 0) = _
    rw [gD_neg, Int.neg_neg]

/-- A set of the dual and that of the program. -/
theorem du_set {g : Prg} (hp : IsPrg g) (hz : zeroD g.1) (hm : 0 < g.2.2.2.length) {s s' : Nat} (hs : ∀ i, i < nOf g → s'.testBit i = s.testBit (duT g i)) :
    det (nOf g) (mAt (colL (nOf g) (prgProblem (dualPrg g)).1 s')) = det (nOf g) (mAt (colL (nOf g) (prgProblem g).1 s)) ∧ ∀ i, i < nOf g → (ptOf (nOf g) (prgProblem (dualPrg g)) s').getD i 0 = (ptOf (nOf g) (prgProblem g) s).getD (duT g i) 0 :=
  ⟨perm_det (duT_inj g) (fun i hi => duT_lt hi) (fun i j hi hj => du_mat hp hz hm hi hj) hs,
   fun i hi => perm_pt (duT_inj g) (fun i hi => duT_lt hi) (fun i j hi hj => du_mat hp hz hm hi hj) (fun i hi => du_q hi) hs hi⟩

theorem du_bits (g : Prg) (s' : Nat) : ∃ s, s < 2 ^ nOf g ∧ ∀ i, i < nOf g → s'.testBit i = s.testBit (duT g i) := by
  obtain ⟨s, h1, h2⟩ := bits_ex (fun i => s'.testBit (duT (dualPrg g) i)) (nOf g)
  refine ⟨s, h1, fun i hi => ?_⟩
  rw [h2 _ (duT_lt hi)]
  congr 1
  obtain ⟨d1, d2, d3, d4⟩ := dual_len (g := g)
  have : nOf g = g.2.1.length + g.2.2.2.length := rfl
  unfold duT
  rw [d1, d2]
  split <;> split <;> omega

theorem du_ex {g : Prg} (hp : IsPrg g) (hz : zeroD g.1) (hm : 0 < g.2.2.2.length) {s' : Nat} (h : mcB (nOf g) (prgProblem (dualPrg g)) s' = true) :
    ∃ s, s < 2 ^ nOf g ∧ mcB (nOf g) (prgProblem g) s = true ∧ moD (dualPrg g) s' = moD g s ∧ moSum (dualPrg g) (moZ (dualPrg g) s') = -(moSum g (moZ g s)) := by
  obtain ⟨s, h1, h2⟩ := du_bits g s'
  obtain ⟨e1, e2⟩ := du_set hp hz hm h2
  obtain ⟨m1, m2⟩ := mcB_iff.1 h
  obtain ⟨d1, d2, d3, d4⟩ := dual_len (g := g)
  refine ⟨s, h1, mcB_iff.2 ⟨by rw [← e1]; exact m1, fun i hi => ?_⟩, ?_, ?_⟩
  · have := duT_back hi
    have hb : duT (dualPrg g) i < nOf g := by have := duT_lt (g := dualPrg g) (i := i) (by rw [dual_n]; exact hi); rw [dual_n] at this; exact this
    rw [← this, ← e2 _ hb]
    exact m2 _ hb
  · unfold moD
    rw [dual_n, e1]
  · have hz : ∀ i, i < nOf g → (moZ (dualPrg g) s').getD i 0 = (moZ g s).getD (duT g i) 0 := fun i hi => by
      rw [moZ_at (by rw [dual_n]; exact hi), moZ_at (duT_lt hi), dual_n, h2 i hi, e2 i hi]
    rw [moSum_at (moZ_len _ _), moSum_at (moZ_len _ _), dual_n]
    have hn : nOf g = g.2.2.2.length + g.2.1.length := Nat.add_comm _ _
    have hn2 : nOf g = g.2.1.length + g.2.2.2.length := rfl
    have L : ∀ f : Nat → Int, Go.Ab.sumTo (nOf g) f = Go.Ab.sumTo g.2.2.2.length f + Go.Ab.sumTo g.2.1.length fun i => f (g.2.2.2.length + i) := fun f => by rw [hn, sum_split]
    have R : ∀ f : Nat → Int, Go.Ab.sumTo (nOf g) f = Go.Ab.sumTo g.2.1.length f + Go.Ab.sumTo g.2.2.2.length fun i => f (g.2.1.length + i) := fun f => sum_split f _ _
    rw [L, R]
    have q1 : Go.Ab.sumTo g.2.2.2.length (fun i => if i < (dualPrg g).2.1.length then (prgProblem (dualPrg g)).2.getD i 0 * (moZ (dualPrg g) s').getD i 0 else -((prgProblem (dualPrg g)).2.getD i 0 * (moZ (dualPrg g) s').getD i 0)) =
        -(Go.Ab.sumTo g.2.2.2.length fun i => if g.2.1.length + i < g.2.1.length then (prgProblem g).2.getD (g.2.1.length + i) 0 * (moZ g s).getD (g.2.1.length + i) 0 else -((prgProblem g).2.getD (g.2.1.length + i) 0 * (moZ g s).getD (g.2.1.length + i) 0)) := by
      rw [← Go.Ab.sumTo_neg]
      refine Go.Ab.sumTo_congr fun i hi => ?_
      rw [if_pos (by omega), if_neg (by omega), du_q (by omega), hz i (by omega), Int.neg_neg, show duT g i = g.2.1.length + i by unfold duT; rw [if_pos hi]; omega]
    have q2 : Go.Ab.sumTo g.2.1.length (fun i => if g.2.2.2.length + i < (dualPrg g).2.1.length then (prgProblem (dualPrg g)).2.getD (g.2.2.2.length + i) 0 * (moZ (dualPrg g) s').getD (g.2.2.2.length + i) 0 else -((prgProblem (dualPrg g)).2.getD (g.2.2.2.length + i) 0 * (moZ (dualPrg g) s').getD (g.2.2.2.length + i) 0)) =
        -(Go.Ab.sumTo g.2.1.length fun i => if i < g.2.1.length then (prgProblem g).2.getD i 0 * (moZ g s).getD i 0 else -((prgProblem g).2.getD i 0 * (moZ g s).getD i 0)) := by
      rw [← Go.Ab.sumTo_neg]
      refine Go.Ab.sumTo_congr fun i hi => ?_
      rw [if_neg (by omega), if_pos hi, du_q (by omega), hz _ (by omega), show duT g (g.2.2.2.length + i) = i by unfold duT; rw [if_neg (by omega)]; omega]
    rw [q1, q2]
    omega

/-- The value of two sets of one linear program. -/
theorem du_two {g : Prg} (hp : IsPrg g) (hz : zeroD g.1) {s s2 : Nat} (h : mcB (nOf g) (prgProblem g) s = true) (h2 : mcB (nOf g) (prgProblem g) s2 = true) :
    0 < moD g s ∧ 0 < moD g s2 ∧ moSum g (moZ g s) * (2 * moD g s2) = moSum g (moZ g s2) * (2 * moD g s) := by
  obtain ⟨a1, a2⟩ := mcB_iff.1 h
  obtain ⟨b1, b2⟩ := mcB_iff.1 h2
  have p1 : 0 < moD g s := by unfold moD; omega
  have p2 : 0 < moD g s2 := by unfold moD; omega
  refine ⟨p1, p2, ?_⟩
  have hsk : ∀ i j, i < nOf g → j < nOf g → mAt (prgProblem g).1 i j = -(mAt (prgProblem g).1 j i) := fun i j hi hj => by
    rw [pm_at hp hi hj, pm_at hp hj hi]
    by_cases c1 : i < g.2.1.length
    · by_cases c2 : j < g.2.1.length
      · rw [if_pos c1, if_pos c2, if_pos c2, if_pos c1, zeroD_at hz, zeroD_at hz]; rfl
      · rw [if_pos c1, if_neg c2, if_neg c2, if_pos c1]
    · by_cases c2 : j < g.2.1.length
      · rw [if_neg c1, if_pos c2, if_pos c2, if_neg c1, Int.neg_neg]
      · rw [if_neg c1, if_neg c2, if_neg c2, if_neg c1]; rfl
  have hb : ∀ i j, i < nOf g → j < nOf g → (i < g.2.1.length ↔ j < g.2.1.length) → mAt (prgProblem g).1 i j = 0 := fun i j hi hj hij => by
    rw [pm_at hp hi hj]
    by_cases c1 : i < g.2.1.length
    · rw [if_pos c1, if_pos (hij.1 c1), zeroD_at hz]
    · rw [if_neg c1, if_neg fun q => c1 (hij.2 q)]
  have row : ∀ t i, i < nOf g → (if t.testBit i then 0 else (ptOf (nOf g) (prgProblem g) t).getD i 0) = (prgProblem g).2.getD i 0 * moD g t + Go.Ab.sumTo (nOf g) fun j => mAt (prgProblem g).1 i j * (moZ g t).getD j 0 := fun t i hi => by
    have r := pt_row (n := nOf g) (p := prgProblem g) (s := t) hi
    have e : Go.Ab.sumTo (nOf g) (fun j => mAt (prgProblem g).1 i j * (moZ g t).getD j 0) = Go.Ab.sumTo (nOf g) fun c => mAt (prgProblem g).1 i c * (if t.testBit c then (ptOf (nOf g) (prgProblem g) t).getD c 0 else 0) := Go.Ab.sumTo_congr fun j hj => by rw [moZ_at hj]
    rw [e]
    unfold moD
    omega
  have ok : ∀ t, (∀ i, i < nOf g → 0 ≤ (ptOf (nOf g) (prgProblem g) t).getD i 0) → ∀ i, i < nOf g → 0 ≤ (moZ g t).getD i 0 ∧ 0 ≤ (if t.testBit i then 0 else (ptOf (nOf g) (prgProblem g) t).getD i 0) ∧ (moZ g t).getD i 0 * (if t.testBit i then 0 else (ptOf (nOf g) (prgProblem g) t).getD i 0) = 0 := fun t ht i hi => by
    rw [moZ_at hi]
    have := ht i hi
    cases t.testBit i <;> simp <;> exact this
  have v := skew_value (n := g.2.1.length) (N := nOf g) p1 p2 hsk hb (row s) (row s2) (ok s a2) (ok s2 b2)
  have tw : ∀ t, 0 < moD g t → (∀ i, i < nOf g → 0 ≤ (ptOf (nOf g) (prgProblem g) t).getD i 0) → moSum g (moZ g t) = 2 * Go.Ab.sumTo (nOf g) fun i => if i < g.2.1.length then (prgProblem g).2.getD i 0 * (moZ g t).getD i 0 else 0 := fun t pt ht => by
    have q0 := skew_dot (n := nOf g) (M := mAt (prgProblem g).1) (q := fun i => (prgProblem g).2.getD i 0) (z := fun i => (moZ g t).getD i 0) pt hsk (row t) fun i hi => (ok t ht i hi).2.2
    rw [moSum_at (moZ_len _ _), ← Go.Ab.sumTo_mul]
    have : Go.Ab.sumTo (nOf g) (fun i => if i < g.2.1.length then (prgProblem g).2.getD i 0 * (moZ g t).getD i 0 else -((prgProblem g).2.getD i 0 * (moZ g t).getD i 0)) + Go.Ab.sumTo (nOf g) (fun i => (prgProblem g).2.getD i 0 * (moZ g t).getD i 0) = Go.Ab.sumTo (nOf g) fun i => 2 * if i < g.2.1.length then (prgProblem g).2.getD i 0 * (moZ g t).getD i 0 else 0 := by
      rw [← Go.Ab.sumTo_add]
      refine Go.Ab.sumTo_congr fun i hi => ?_
      by_cases c1 : i < g.2.1.length
      · rw [if_pos c1, if_pos c1]; omega
      · rw [if_neg c1, if_neg c1]; omega
    omega
  rw [tw s p1 a2, tw s2 p2 b2]
  generalize Go.Ab.sumTo (nOf g) (fun i => if i < g.2.1.length then (prgProblem g).2.getD i 0 * (moZ g s).getD i 0 else 0) = X at *
  generalize Go.Ab.sumTo (nOf g) (fun i => if i < g.2.1.length then (prgProblem g).2.getD i 0 * (moZ g s2).getD i 0 else 0) = Y at *
  rw [show 2 * X * (2 * moD g s2) = 4 * (moD g s2 * X) by rw [show (4 : Int) = 2 * 2 from rfl]; ac_rfl, v, show (4 : Int) = 2 * 2 from rfl]
  ac_rfl

/-! ### The answers -/

theorem frac_alike {x y a b : Int} (ha : 0 < a) (hb : 0 < b) (h : x * b = y * a) : frac x a = frac y b := by
  have p1 := frac_pos (n := x) (d := a) (by omega)
  have p2 := frac_pos (n := y) (d := b) (by omega)
  have m1 := frac_mul (n := x) (d := a) (by omega)
  have m2 := frac_mul (n := y) (d := b) (by omega)
  refine (frac_cross (by omega) (by omega) (frac_gcd (by omega)) (frac_gcd (by omega))).1 ?_
  generalize frac x a = u at *
  generalize frac y b = v at *
  have : u.1 * v.2 * (a * b) = v.1 * u.2 * (a * b) := by
    rw [show u.1 * v.2 * (a * b) = u.1 * a * (v.2 * b) by ac_rfl, m1, show v.1 * u.2 * (a * b) = v.1 * b * (u.2 * a) by ac_rfl, m2, show x * u.2 * (v.2 * b) = x * b * (u.2 * v.2) by ac_rfl, h]
    ac_rfl
  exact Int.eq_of_mul_eq_mul_right (Int.mul_ne_zero (by omega) (by omega)) this

theorem fracT_good {m d : Int} (h : (fracT m d).2 = 0) : isFr 1000000000 (frac m d) = true ∧ (fracT m d).1 = frac m d := by
  unfold fracT at h ⊢
  split at h
  · rename_i g
    rw [if_pos g]
    exact ⟨g, rfl⟩
  · cases h

theorem frAll_code1 (l : List Int) (d : Int) : (frAll l d).2 = 0 ∨ (frAll l d).2 = 3 := by
  unfold frAll
  split
  · exact .inl rfl
  · exact .inr rfl

theorem mo_zero {g : Prg} (h : (moRes g).2.2.2 = 0) : IsPrg g ∧ ∃ s, s < 2 ^ nOf g ∧ mcB (nOf g) (prgProblem g) s = true ∧ (∀ j, j < s → mcB (nOf g) (prgProblem g) j = false) ∧ moRes g = moAt g s ∧ (frAll (moZ g s) (moD g s)).2 = 0 ∧ (fracT (moSum g (moZ g s)) (2 * moD g s)).2 = 0 ∧ (moRes g).2.2.1 = frac (moSum g (moZ g s)) (2 * moD g s) := by
  have e := h
  unfold moRes at h
  split at h
  · rename_i hp
    split at h
    · rename_i hs
      cases hf : (List.range (2 ^ nOf g)).find? (mcB (nOf g) (prgProblem g)) with
      | none => rw [hf] at h; cases h
      | some s =>
        obtain ⟨f1, f2, f3⟩ := List.find?_range_eq_some.1 hf
        have f2 := List.mem_range.1 f2
        have hb : ∀ j, j < s → mcB (nOf g) (prgProblem g) j = false := fun j hj => by have := f3 j hj; simpa using this
        have em := moRes_some hp hs f2 f1 hb
        rw [em] at e
        have : (frAll (moZ g s) (moD g s)).2 = 0 ∧ (fracT (moSum g (moZ g s)) (2 * moD g s)).2 = 0 ∧ (moAt g s).2.2.1 = (fracT (moSum g (moZ g s)) (2 * moD g s)).1 := by
          unfold moAt at e ⊢
          split at e
          · rename_i c1
            split at e
            · rename_i c2
              rw [if_pos c1, if_pos c2]
              exact ⟨c1, c2, rfl⟩
            · rename_i c2
              exact absurd e c2
          · rename_i c1
            exact absurd e c1
        refine ⟨hp, s, f2, f1, hb, em, this.1, this.2.1, ?_⟩
        rw [em, this.2.2]
        exact (fracT_good this.2.1).2
    · cases h
  · cases h

theorem mo_none {g : Prg} (hp : IsPrg g) (hs : semiL g.2.1.length g.1 = true) (h0 : (moRes g).2.2.2 ≠ 0) (h3 : (moRes g).2.2.2 ≠ 3) {s : Nat} (hlt : s < 2 ^ nOf g) (h : mcB (nOf g) (prgProblem g) s = true) : False := by
  unfold moRes at h0 h3
  rw [if_pos hp, if_pos hs] at h0 h3
  cases hf : (List.range (2 ^ nOf g)).find? (mcB (nOf g) (prgProblem g)) with
  | none =>
    have := List.find?_range_eq_none.1 hf s hlt
    rw [h] at this
    cases this
  | some t =>
    rw [hf] at h0 h3
    dsimp only at h0 h3
    unfold moAt at h0 h3
    have c0 := frAll_code1 (moZ g t) (moD g t)
    have c1 := fracT_code (moSum g (moZ g t)) (2 * moD g t)
    split at h0
    · rename_i e1
      rw [if_pos e1] at h3
      split at h0
      · exact h0 rfl
      · rename_i e2
        rw [if_neg e2] at h3
        rcases c1 with c1 | c1
        · exact e2 c1
        · exact h3 c1
    · rename_i e1
      rw [if_neg e1] at h3
      rcases c0 with c0 | c0
      · exact e1 c0
      · exact h3 c0

theorem frac_negn {n d : Int} (hd : 0 < d) : frac (-n) d = (-(frac n d).1, (frac n d).2) := by
  have p1 := frac_pos (n := n) (d := d) (by omega)
  have p2 := frac_pos (n := -n) (d := d) (by omega)
  have m1 := frac_mul (n := n) (d := d) (by omega)
  have m2 := frac_mul (n := -n) (d := d) (by omega)
  refine (frac_cross p2 (by exact p1) (frac_gcd (by omega)) (by show Int.gcd (-(frac n d).1) _ = 1; rw [Int.neg_gcd]; exact frac_gcd (by omega))).1 ?_
  generalize frac n d = u at *
  generalize frac (-n) d = v at *
  refine Int.eq_of_mul_eq_mul_right (show d ≠ 0 by omega) ?_
  show v.1 * u.2 * d = -u.1 * v.2 * d
  rw [show v.1 * u.2 * d = v.1 * d * u.2 by ac_rfl, m2, Int.neg_mul, Int.neg_mul, Int.neg_mul, Int.neg_mul, show u.1 * v.2 * d = u.1 * d * v.2 by ac_rfl, m1]
  congr 1
  ac_rfl

theorem dp_zero {g : Prg} (h : (dpRes g).2 = 0) : IsPrg g ∧ zeroD g.1 ∧ 0 < g.2.2.2.length ∧ (dpRes g).1 = dualPrg g := by
  unfold dpRes at h ⊢
  split at h
  · rename_i hp
    split at h
    · rename_i h2
      rw [if_pos hp, if_pos h2]
      exact ⟨hp, h2.1, h2.2, rfl⟩
    · cases h
  · cases h

theorem dp_back {g : Prg} (h : (dpRes g).2 = 0) : dpRes (dpRes g).1 = (g, 0) := by
  obtain ⟨hp, hz, hm, e⟩ := dp_zero h
  rw [e]
  obtain ⟨d1, d2, d3, d4⟩ := dual_len (g := g)
  unfold dpRes
  rw [if_pos (dual_prg hp hm), if_pos ⟨dual_zero, by have := hp.n1; omega⟩, dual_dual hp hz hm]

theorem dp_val {g : Prg} (h : (dpRes g).2 = 0) (h3 : (moRes g).2.2.2 = 0) (h4 : (moRes (dpRes g).1).2.2.2 = 0) : (moRes g).2.2.1.1 = -(moRes (dpRes g).1).2.2.1.1 ∧ (moRes g).2.2.1.2 = (moRes (dpRes g).1).2.2.1.2 := by
  obtain ⟨hp, hz, hm, e⟩ := dp_zero h
  rw [e] at h4 ⊢
  obtain ⟨_, s, s1, s2, _, _, _, _, sv⟩ := mo_zero h3
  obtain ⟨_, t, t1, t2, _, _, _, _, tv⟩ := mo_zero h4
  rw [dual_n] at t2
  obtain ⟨u, u1, u2, u3, u4⟩ := du_ex hp hz hm t2
  obtain ⟨p1, p2, pe⟩ := du_two hp hz s2 u2
  rw [sv, tv, u3, u4, frac_negn (by omega), frac_alike (by omega) (by omega) pe]
  exact ⟨(Int.neg_neg _).symm, rfl⟩

end Go.Proofs.YtdchibdcfdbcpaaGreat
