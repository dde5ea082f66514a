/- Errors of least values, scaled programs, least values along rays: the laws of FnDuals as plain facts. No condition. -/
import Derived.Test.YtdchibdcfdbcpaaGreatDU0
import Derived.Test.YtdchibdcfdbcpaaGreatGQQ
import Derived.Test.YtdchibdcfdbcpaaGreatGFF
namespace Go.Proofs.YtdchibdcfdbcpaaGreat
open Go.Ab

theorem det_zero {m : Mat} (h : ∀ i j, m i j = 0) : ∀ n, 0 ≤ det n m
  | 0 => by simp [det]
  | n + 1 => by
    have : det (n + 1) m = 0 := by
      have e := det_scale (n := n + 1) (s := m) (B := fun _ => 0) (n + 1) (Nat.le_refl _)
      have e2 : det (n + 1) (fun i j => (if j < n + 1 then 0 else 1) * m i j) = det (n + 1) m := det_congr fun i j _ _ => by rw [h i j, Int.mul_zero]
      have e3 : (fun i j => if j < n + 1 then (0 : Int) * m i j else m i j) = m := by
        funext i j
        rw [h i j]
        split <;> rfl
      rw [e3] at e
      rw [e]
      show prodI (fun _ => 0) (n + 1) * _ = 0
      have : prodI (fun _ => 0) (n + 1) = 0 := by simp [prodI]
      rw [this, Int.zero_mul]
    rw [this]
    decide

theorem mAt_map0 {α β : Type} {a : List α} {b : List β} {f : α → β → Int} (h : ∀ x y, f x y = 0) (r c : Nat) : mAt (a.map fun i => b.map fun k => f i k) r c = 0 := by
  simp only [mAt, List.getD_eq_getElem?_getD, List.getElem?_map]
  cases e1 : a[r]? with
  | none => simp
  | some i =>
    simp only [Option.map_some, Option.getD_some, List.getElem?_map]
    cases e2 : b[c]? with
    | none => simp
    | some k => simpa using h i k

theorem semi_zero {n : Nat} {m : List (List Int)} (h : zeroD m) : semiL n m = true := by
  unfold semiL minorsL
  rw [List.all_eq_true]
  intro x hx
  obtain ⟨s, _, rfl⟩ := List.mem_map.1 hx
  refine decide_eq_true ?_
  unfold minorL
  refine det_zero (fun i j => ?_) _
  unfold partRC
  exact mAt_map0 (fun a b => mAt_map0 (fun i k => by rw [zeroD_at h, zeroD_at h]; rfl) a b) i j

theorem dp_err {g : Prg} (h : (dpRes g).2 = 0) (h3 : (moRes g).2.2.2 ≠ 3) (h4 : (moRes (dpRes g).1).2.2.2 ≠ 3) : (moRes g).2.2.2 = 0 ↔ (moRes (dpRes g).1).2.2.2 = 0 := by
  obtain ⟨hp, hz, hm, e⟩ := dp_zero h
  rw [e] at h4 ⊢
  have hq := dual_prg hp hm
  have hm2 : 0 < (dualPrg g).2.2.2.length := by
    obtain ⟨d1, d2, d3, d4⟩ := dual_len (g := g)
    have := hp.n1
    omega
  constructor
  · intro h0
    obtain ⟨_, s, s1, s2, _⟩ := mo_zero h0
    refine Classical.byContradiction fun g0 => ?_
    have hb : mcB (nOf (dualPrg g)) (prgProblem (dualPrg (dualPrg g))) s = true := by rw [dual_dual hp hz hm, dual_n]; exact s2
    obtain ⟨t, t1, t2, _⟩ := du_ex hq dual_zero hm2 hb
    exact mo_none hq (semi_zero dual_zero) g0 h4 t1 t2
  · intro h0
    obtain ⟨_, s, s1, s2, _⟩ := mo_zero h0
    rw [dual_n] at s2
    obtain ⟨t, t1, t2, _⟩ := du_ex hp hz hm s2
    exact Classical.byContradiction fun g0 => mo_none hp (semi_zero hz) g0 h3 t1 t2

/-! ### Scaled programs -/

theorem sp_zero {g : Prg} {k : Int} (h : (spRes g k).2 = 0) : IsPrg g ∧ (1 ≤ k ∧ k ≤ 20) ∧ IsPrg (sclPrg g k) ∧ (spRes g k).1 = sclPrg g k := by
  unfold spRes at h ⊢
  split at h
  · rename_i hp
    split at h
    · rename_i hk
      unfold limRes at h
      split at h
      · rename_i h2
        rw [if_pos hp, if_pos hk]
        unfold limRes
        rw [if_pos h2]
        exact ⟨hp, inR_iff.1 hk, h2, rfl⟩
      · cases h
    · cases h
  · cases h

theorem gD_map (f : Int → Int) (h0 : f 0 = 0) (xs : List Int) (i : Nat) : (xs.map f).getD i 0 = f (xs.getD i 0) := by
  simp only [List.getD_eq_getElem?_getD, List.getElem?_map]
  cases xs[i]? with
  | none => exact h0.symm
  | some x => rfl

theorem scl_d (g : Prg) (k : Int) (i j : Nat) : mAt (sclPrg g k).1 i j = k * mAt g.1 i j := by
  unfold mAt sclPrg
  dsimp only
  have : (g.1.map fun r => r.map (k * ·)).getD i [] = (g.1.getD i []).map (k * ·) := by
    simp only [List.getD_eq_getElem?_getD, List.getElem?_map]
    cases g.1[i]? <;> rfl
  rw [this, gD_map _ (Int.mul_zero k)]

theorem scl_set {g : Prg} {k : Int} (hp : IsPrg g) (hq : IsPrg (sclPrg g k)) (hk : 1 ≤ k) (s : Nat) :
    (mcB (nOf g) (prgProblem (sclPrg g k)) s = mcB (nOf g) (prgProblem g) s) ∧
      (mcB (nOf g) (prgProblem g) s = true → 0 < moD g s ∧ 0 < moD (sclPrg g k) s ∧ moSum (sclPrg g k) (moZ (sclPrg g k) s) * moD g s = k * moSum g (moZ g s) * moD (sclPrg g k) s) := by
  have cl : (sclPrg g k).2.1.length = g.2.1.length := by simp [sclPrg]
  have bl : (sclPrg g k).2.2.2.length = g.2.2.2.length := rfl
  have en : nOf (sclPrg g k) = nOf g := by show (sclPrg g k).2.1.length + (sclPrg g k).2.2.2.length = _; rw [cl, bl]
  have hn : nOf g = g.2.1.length + g.2.2.2.length := rfl
  have hr : ∀ i, i < nOf g → 0 < (if i < g.2.1.length then k else 1) := fun i _ => by split <;> omega
  have hc : ∀ i, i < nOf g → 0 < (if i < g.2.1.length then 1 else k) := fun i _ => by split <;> omega
  have hM : ∀ i j, i < nOf g → j < nOf g → mAt (prgProblem (sclPrg g k)).1 i j * (if j < g.2.1.length then 1 else k) = (if i < g.2.1.length then k else 1) * mAt (prgProblem g).1 i j := fun i j hi hj => by
    rw [pm_at hq (by rw [en]; exact hi) (by rw [en]; exact hj), pm_at hp hi hj, cl, scl_d]
    by_cases c1 : i < g.2.1.length
    · by_cases c2 : j < g.2.1.length
      · rw [if_pos c1, if_pos c2, if_pos c2, if_pos c1, if_pos c1, if_pos c2, Int.mul_one]
      · rw [if_pos c1, if_neg c2, if_neg c2, if_pos c1, if_pos c1, if_neg c2, Int.mul_comm]; rfl
    · by_cases c2 : j < g.2.1.length
      · rw [if_neg c1, if_pos c2, if_pos c2, if_neg c1, if_neg c1, if_pos c2, Int.mul_one, Int.one_mul]; rfl
      · rw [if_neg c1, if_neg c2, if_neg c2, if_neg c1, if_neg c1, if_neg c2, Int.zero_mul, Int.mul_zero]
  have hQ : ∀ i, i < nOf g → (prgProblem (sclPrg g k)).2.getD i 0 = (if i < g.2.1.length then k else 1) * (prgProblem g).2.getD i 0 := fun i hi => by
    rw [pq_at, pq_at, cl]
    by_cases c1 : i < g.2.1.length
    · rw [if_pos c1, if_pos c1, if_pos c1]
      exact gD_map _ (Int.mul_zero k) _ _
    · rw [if_neg c1, if_neg c1, if_neg c1, Int.one_mul]; rfl
  have un := fun i (hi : i < nOf g) => unit_pt (n := nOf g) (p := prgProblem g) (p' := prgProblem (sclPrg g k)) hr hc hM hQ s hi
  have n1 := hp.n1
  have hz := (un 0 (by omega)).2
  refine ⟨?_, fun hb => ?_⟩
  · rw [Bool.eq_iff_iff, mcB_iff, mcB_iff]
    by_cases hd : det (nOf g) (mAt (colL (nOf g) (prgProblem g).1 s)) = 0
    · exact ⟨fun q => absurd (hz.2 hd) q.1, fun q => absurd hd q.1⟩
    · have hd' : det (nOf g) (mAt (colL (nOf g) (prgProblem (sclPrg g k)).1 s)) ≠ 0 := fun q => hd (hz.1 q)
      refine ⟨fun q => ⟨hd, fun i hi => ?_⟩, fun q => ⟨hd', fun i hi => ?_⟩⟩
      · have u := (un i hi).1
        have q2 := q.2 i hi
        have cpos : 0 < (if s.testBit i = true then (if i < g.2.1.length then 1 else k) else (if i < g.2.1.length then k else 1)) := by split <;> split <;> omega
        generalize (if s.testBit i = true then (if i < g.2.1.length then 1 else k) else (if i < g.2.1.length then k else 1)) = c at *
        generalize (ptOf (nOf g) (prgProblem (sclPrg g k)) s).getD i 0 = x' at *
        generalize (ptOf (nOf g) (prgProblem g) s).getD i 0 = x at *
        have d1 : (0 : Int) < (det (nOf g) (mAt (colL (nOf g) (prgProblem g).1 s))).natAbs := by omega
        have d2 : (0 : Int) < (det (nOf g) (mAt (colL (nOf g) (prgProblem (sclPrg g k)).1 s))).natAbs := by omega
        generalize ((det (nOf g) (mAt (colL (nOf g) (prgProblem g).1 s))).natAbs : Int) = D at *
        generalize ((det (nOf g) (mAt (colL (nOf g) (prgProblem (sclPrg g k)).1 s))).natAbs : Int) = D' at *
        have h1 : 0 ≤ c * x * D' := by rw [← u]; exact Int.mul_nonneg q2 (by omega)
        have h2 := Int.nonneg_of_mul_nonneg_left h1 d2
        exact Int.nonneg_of_mul_nonneg_right h2 cpos
      · have u := (un i hi).1
        have q2 := q.2 i hi
        have cpos : 0 < (if s.testBit i = true then (if i < g.2.1.length then 1 else k) else (if i < g.2.1.length then k else 1)) := by split <;> split <;> omega
        generalize (if s.testBit i = true then (if i < g.2.1.length then 1 else k) else (if i < g.2.1.length then k else 1)) = c at *
        generalize (ptOf (nOf g) (prgProblem (sclPrg g k)) s).getD i 0 = x' at *
        generalize (ptOf (nOf g) (prgProblem g) s).getD i 0 = x at *
        have d1 : (0 : Int) < (det (nOf g) (mAt (colL (nOf g) (prgProblem g).1 s))).natAbs := by omega
        have d2 : (0 : Int) < (det (nOf g) (mAt (colL (nOf g) (prgProblem (sclPrg g k)).1 s))).natAbs := by omega
        generalize ((det (nOf g) (mAt (colL (nOf g) (prgProblem g).1 s))).natAbs : Int) = D at *
        generalize ((det (nOf g) (mAt (colL (nOf g) (prgProblem (sclPrg g k)).1 s))).natAbs : Int) = D' at *
        have h1 : 0 ≤ x' * D := by rw [u]; exact Int.mul_nonneg (Int.mul_nonneg (by omega) q2) (by omega)
        exact Int.nonneg_of_mul_nonneg_left h1 d1
  · obtain ⟨hd, _⟩ := mcB_iff.1 hb
    have hd' : det (nOf g) (mAt (colL (nOf g) (prgProblem (sclPrg g k)).1 s)) ≠ 0 := fun q => hd (hz.1 q)
    have eD' : moD (sclPrg g k) s = ((det (nOf g) (mAt (colL (nOf g) (prgProblem (sclPrg g k)).1 s))).natAbs : Nat) := by unfold moD; rw [en]
    have eD : moD g s = ((det (nOf g) (mAt (colL (nOf g) (prgProblem g).1 s))).natAbs : Nat) := rfl
    have p1 : 0 < moD g s := by rw [eD]; omega
    have p2 : 0 < moD (sclPrg g k) s := by rw [eD']; omega
    refine ⟨p1, p2, ?_⟩
    rw [moSum_at (moZ_len _ _), moSum_at (moZ_len _ _), en, Int.mul_comm _ (moD g s), ← Go.Ab.sumTo_mul, Int.mul_right_comm, Int.mul_comm (k * moD (sclPrg g k) s), Int.mul_comm _ (k * moD (sclPrg g k) s), ← Go.Ab.sumTo_mul]
    refine Go.Ab.sumTo_congr fun i hi => ?_
    have e : (moZ (sclPrg g k) s).getD i 0 * moD g s = (if i < g.2.1.length then 1 else k) * (moZ g s).getD i 0 * moD (sclPrg g k) s := by
      rw [moZ_at hi, moZ_at (by rw [en]; exact hi), en]
      have u := (un i hi).1
      cases hbit : s.testBit i with
      | false => simp
      | true =>
        rw [hbit] at u
        simp only [if_true] at u ⊢
        rw [eD, eD']
        exact u
    rw [cl, hQ i hi]
    generalize moD g s = D at *
    generalize moD (sclPrg g k) s = D' at *
    generalize (moZ (sclPrg g k) s).getD i 0 = z' at *
    generalize (moZ g s).getD i 0 = z at *
    generalize (prgProblem g).2.getD i 0 = q at *
    by_cases c1 : i < g.2.1.length
    · rw [if_pos c1, if_pos c1, if_pos c1]
      rw [if_pos c1, Int.one_mul] at e
      rw [show D * (k * q * z') = k * q * (z' * D) by ac_rfl, e]
      ac_rfl
    · rw [if_neg c1, if_neg c1, if_neg c1, Int.one_mul]
      rw [if_neg c1] at e
      rw [Int.mul_neg, Int.mul_neg]
      congr 1
      rw [show D * (q * z') = q * (z' * D) by ac_rfl, e]
      ac_rfl

theorem sp_val {g : Prg} {k : Int} (h : (spRes g k).2 = 0) (h1 : (moRes g).2.2.2 = 0) (h2 : (moRes (spRes g k).1).2.2.2 = 0) (h3 : (fracT ((moRes g).2.2.1.1 * k) ((moRes g).2.2.1.2 * 1)).2 = 0) :
    isFr 1000000000 (moRes g).2.2.1 = true ∧ (fracT ((moRes g).2.2.1.1 * k) ((moRes g).2.2.1.2 * 1)).1 = (moRes (spRes g k).1).2.2.1 := by
  obtain ⟨hp, hk, hq, e⟩ := sp_zero h
  rw [e] at h2 ⊢
  obtain ⟨_, s, s1, s2, s3, _, _, s5, sv⟩ := mo_zero h1
  obtain ⟨_, t, t1, t2, t3, _, _, _, tv⟩ := mo_zero h2
  have cl : (sclPrg g k).2.1.length = g.2.1.length := by simp [sclPrg]
  have en : nOf (sclPrg g k) = nOf g := by show (sclPrg g k).2.1.length + g.2.2.2.length = _; rw [cl]
  rw [en] at t2 t3
  have hst : s = t := by
    rcases Nat.lt_trichotomy s t with g1 | g1 | g1
    · have := t3 s g1
      rw [(scl_set hp hq hk.1 s).1, s2] at this
      cases this
    · exact g1
    · have := s3 t g1
      rw [← (scl_set hp hq hk.1 t).1, t2] at this
      cases this
  subst hst
  obtain ⟨p1, p2, pe⟩ := (scl_set hp hq hk.1 s).2 s2
  have hf := (fracT_good s5).1
  rw [(fracT_good h3).2, tv]
  rw [sv]
  refine ⟨hf, ?_⟩
  have a2 := (isFr_iff.1 hf).1
  have am := frac_mul (n := moSum g (moZ g s)) (d := 2 * moD g s) (by omega)
  generalize frac (moSum g (moZ g s)) (2 * moD g s) = a at *
  refine frac_alike (by omega) (by omega) ?_
  generalize moSum (sclPrg g k) (moZ (sclPrg g k) s) = S' at *
  generalize moSum g (moZ g s) = S at *
  generalize moD g s = D at *
  generalize moD (sclPrg g k) s = D' at *
  refine Int.eq_of_mul_eq_mul_right (show 2 * D ≠ 0 by omega) ?_
  rw [Int.mul_one, show a.1 * k * (2 * D') * (2 * D) = a.1 * (2 * D) * (k * (2 * D')) by ac_rfl, am, show S' * a.2 * (2 * D) = S' * D * (2 * a.2) by ac_rfl, pe]
  ac_rfl

/-! ### Least values along rays -/

theorem comTo_ones {xs : List Frac} (h : ∀ a ∈ xs, a.2 = 1) : ∀ i, comTo xs i = 1
  | 0 => rfl
  | i + 1 => by
    have e : (xs.getD i (0, 1)).2 = 1 := by
      simp only [List.getD_eq_getElem?_getD]
      cases e : xs[i]? with
      | none => rfl
      | some a => exact h a (List.mem_of_getElem? e)
    simp only [comTo]
    rw [comTo_ones h i, e]
    decide

theorem la_zero {p : Prg} {x u : List Int} (h : (laRes p x u).2.2 = 0) : IsPrg p ∧ laOK p x u ∧ 0 < bendV p u ∧ (fracT (-slopeV p x u) (bendV p u)).2 = 0 ∧ (fracT (twiceV p x * bendV p u - slopeV p x u * slopeV p x u) (2 * bendV p u)).2 = 0 ∧
    (laRes p x u).1 = (fracT (-slopeV p x u) (bendV p u)).1 ∧ (laRes p x u).2.1 = (fracT (twiceV p x * bendV p u - slopeV p x u * slopeV p x u) (2 * bendV p u)).1 := by
  unfold laRes at h ⊢
  split at h
  · rename_i h1
    split at h
    · rename_i h2
      split at h
      · rename_i h3
        split at h
        · rename_i h4
          rw [if_pos h1, if_pos h2, if_pos h3, if_pos h4]
          exact ⟨h1, h2, h3, h4.1, h4.2, rfl, rfl⟩
        · cases h
      · cases h
    · cases h
  · cases h

theorem la_cmp {p : Prg} {x u : List Int} (h : (laRes p x u).2.2 = 0) (hv : (vaRes p (x.map fun n => (n, 1))).2 = 0) :
    isFr 1000000000 (laRes p x u).2.1 = true ∧ isFr 1000000000 (vaRes p (x.map fun n => (n, 1))).1 = true ∧
      ¬ 0 < sgI ((laRes p x u).2.1.1 * (vaRes p (x.map fun n => (n, 1))).1.2 - (vaRes p (x.map fun n => (n, 1))).1.1 * (laRes p x u).2.1.2) ∧
      (sgI ((laRes p x u).2.1.1 * (vaRes p (x.map fun n => (n, 1))).1.2 - (vaRes p (x.map fun n => (n, 1))).1.1 * (laRes p x u).2.1.2) = 0 ↔ (laRes p x u).1.1 = 0) := by
  obtain ⟨hp, hok, hb, e1, e2, e3, e4⟩ := la_zero h
  have hl : x.length = p.2.1.length := hok.1
  have ones : ∀ a ∈ (x.map fun n => ((n, 1) : Frac)), a.2 = 1 := fun a ha => by
    obtain ⟨n, _, rfl⟩ := List.mem_map.1 ha
    rfl
  have hva : vaRes p (x.map fun n => (n, 1)) = fracT (twiceV p x) 2 := by
    have hv2 := hv
    unfold vaRes at hv2 ⊢
    split at hv2
    · rename_i g1
      split at hv2
      · rename_i g2
        rw [if_pos g1, if_pos g2]
        cases ht : tog 10000 10000000 (x.map fun n => ((n, 1) : Frac)) with
        | none => rw [ht] at hv2; cases hv2
        | some ld =>
          obtain ⟨l, d⟩ := ld
          unfold tog at ht
          split at ht
          · simp only [Option.some.injEq, Prod.mk.injEq] at ht
            obtain ⟨t1, t2⟩ := ht
            rw [comTo_ones ones] at t1 t2
            subst t2
            have : l = x := by
              rw [← t1, List.map_map]
              conv => rhs; rw [← List.map_id x]
              refine List.map_congr_left fun n _ => ?_
              show n * (1 : Int).tdiv 1 = n
              rw [show (1 : Int).tdiv 1 = 1 from rfl, Int.mul_one]
            subst this
            show fracT (vaNum p l 1) (2 * 1 * 1) = _
            unfold vaNum twiceV
            rfl
          · cases ht
      · cases hv2
    · cases hv2
  rw [hva] at hv ⊢
  obtain ⟨f1, g1⟩ := fracT_good e1
  obtain ⟨f2, g2⟩ := fracT_good e2
  obtain ⟨f3, g3⟩ := fracT_good hv
  rw [e3, e4, g1, g2, g3]
  refine ⟨f2, f3, ?_⟩
  have m1 := frac_mul (n := -slopeV p x u) (d := bendV p u) (by omega)
  have m2 := frac_mul (n := twiceV p x * bendV p u - slopeV p x u * slopeV p x u) (d := 2 * bendV p u) (by omega)
  have m3 := frac_mul (n := twiceV p x) (d := 2) (by decide)
  have q1 := (isFr_iff.1 f1).1
  have q2 := (isFr_iff.1 f2).1
  have q3 := (isFr_iff.1 f3).1
  generalize frac (-slopeV p x u) (bendV p u) = t at *
  generalize frac (twiceV p x * bendV p u - slopeV p x u * slopeV p x u) (2 * bendV p u) = v at *
  generalize frac (twiceV p x) 2 = s at *
  generalize slopeV p x u = g at *
  generalize twiceV p x = f at *
  generalize bendV p u = b at *
  have key : (v.1 * s.2 - s.1 * v.2) * (2 * b) = -(g * g * (v.2 * s.2)) := by
    rw [Int.sub_mul, show v.1 * s.2 * (2 * b) = v.1 * (2 * b) * s.2 by ac_rfl, m2, show s.1 * v.2 * (2 * b) = s.1 * 2 * (v.2 * b) by ac_rfl, m3, Int.sub_mul, Int.sub_mul,
      show f * b * v.2 * s.2 = f * s.2 * (v.2 * b) by ac_rfl, show g * g * v.2 * s.2 = g * g * (v.2 * s.2) by ac_rfl]
    omega
  have hvs : 0 < v.2 * s.2 := Int.mul_pos (by omega) (by omega)
  have hgg : 0 ≤ g * g := by
    rcases Int.le_total 0 g with q | q
    · exact Int.mul_nonneg q q
    · have := Int.mul_nonneg (show 0 ≤ -g by omega) (show 0 ≤ -g by omega)
      rwa [Int.neg_mul, Int.mul_neg, Int.neg_neg] at this
  have hle : v.1 * s.2 - s.1 * v.2 ≤ 0 := by
    refine Classical.byContradiction fun q => ?_
    have h1 := Int.mul_pos (show 0 < v.1 * s.2 - s.1 * v.2 by omega) (show 0 < 2 * b by omega)
    have h2 := Int.mul_nonneg hgg (show 0 ≤ v.2 * s.2 by omega)
    omega
  have hz : v.1 * s.2 - s.1 * v.2 = 0 ↔ t.1 = 0 := by
    constructor
    · intro q
      rw [q, Int.zero_mul] at key
      have h1 : g * g * (v.2 * s.2) = 0 := by omega
      have h2 : g = 0 := by
        rcases Int.mul_eq_zero.1 h1 with q1 | q1
        · exact (Int.mul_eq_zero.1 q1).elim id id
        · omega
      rw [h2, Int.neg_zero, Int.zero_mul] at m1
      exact (Int.mul_eq_zero.1 m1).elim id fun q => by omega
    · intro q
      rw [q, Int.zero_mul] at m1
      have h2 : g = 0 := by
        rcases Int.mul_eq_zero.1 m1.symm with q1 | q1 <;> omega
      rw [h2, Int.zero_mul, Int.zero_mul] at key
      rcases Int.mul_eq_zero.1 (show (v.1 * s.2 - s.1 * v.2) * (2 * b) = 0 by rw [key]; rfl) with q1 | q1
      · exact q1
      · omega
  generalize v.1 * s.2 - s.1 * v.2 = O at *
  unfold sgI
  constructor
  · split
    · decide
    · rw [if_neg (by omega)]; decide
  · rw [← hz]
    constructor
    · intro q
      split at q
      · cases q
      · omega
    · intro q
      rw [q]
      decide

end Go.Proofs.YtdchibdcfdbcpaaGreat
