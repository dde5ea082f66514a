/- The method of Lemke and Howson ends, so that there are equilibria by sets; these are equilibria. No program here. -/
import Derived.Test.YtbcfknboheghkaaGreatEB0
import Derived.Test.YtbcfknboheghkaaGreatGLH
import Derived.Test.YtbcfknboheghkaaGreatZabPc
import Derived.Test.YtbcfknboheghkaaGreatGLL
namespace Go.Proofs.YtbcfknboheghkaaGreat
open Go.Ab

section
variable {g : Game} {a : Nat}

def lhS (g : Game) (a m b : Nat) : Prop := ∃ k, k < nG g ∧ basF (lhIt g a m) k = b

theorem lh_bas (hg : IsGm g) (ha : a < nG g) (m : Nat) {k : Nat} (hk : k < nG g) : basF (lhIt g a (m + 1)) k = if k = lhRow (nG g) (lhIt g a m) then (lhIt g a m).v else basF (lhIt g a m) k := by
  have inv := lh_inv hg ha m
  have hr := (inv.least hg).1.lt
  show (((lhIt g a m).bas.set (lhRow (nG g) (lhIt g a m)) ((lhIt g a m).v : Nat)).getD k 0).toNat = _
  by_cases e : k = lhRow (nG g) (lhIt g a m)
  · rw [if_pos e, e]
    have : lhRow (nG g) (lhIt g a m) < (lhIt g a m).bas.length := by rw [inv.bl]; exact hr
    simp [List.getD_eq_getElem?_getD, this]
  · rw [if_neg e]
    show _ = ((lhIt g a m).bas.getD k 0).toNat
    simp [List.getD_eq_getElem?_getD, List.getElem?_set_ne (fun q => e q.symm)]

theorem lh_left (hg : IsGm g) (ha : a < nG g) (m : Nat) : lhLeft (nG g) (lhIt g a m) = partN (nG g) (lhIt g a (m + 1)).v := by
  have inv := lh_inv hg ha m
  have hr := (inv.least hg).1.lt
  have hb : lhLeft (nG g) (lhIt g a m) < 2 * nG g := (inv.bas hr).2
  show _ = partN (nG g) (partN (nG g) (lhLeft (nG g) (lhIt g a m)))
  rw [partN_two hb]

/-- The set ahead of a step, by that behind it. -/
theorem lh_prev (hg : IsGm g) (ha : a < nG g) (m b : Nat) : lhS g a m b ↔ b = lhLeft (nG g) (lhIt g a m) ∨ (lhS g a (m + 1) b ∧ b ≠ (lhIt g a m).v) := by
  have inv := lh_inv hg ha m
  have inv2 := lh_inv hg ha (m + 1)
  have hr := (inv.least hg).1.lt
  have lft : lhLeft (nG g) (lhIt g a m) = basF (lhIt g a m) (lhRow (nG g) (lhIt g a m)) := rfl
  have hrow : basF (lhIt g a (m + 1)) (lhRow (nG g) (lhIt g a m)) = (lhIt g a m).v := by rw [lh_bas hg ha m hr, if_pos rfl]
  constructor
  · rintro ⟨k, hk, rfl⟩
    by_cases e : k = lhRow (nG g) (lhIt g a m)
    · exact .inl (by rw [lft, e])
    · refine .inr ⟨⟨k, hk, by rw [lh_bas hg ha m hk, if_neg e]⟩, fun q => e ?_⟩
      refine inv2.tab.inj k _ hk hr ?_
      rw [hrow, lh_bas hg ha m hk, if_neg e]
      exact q
  · rintro (e | ⟨⟨k, hk, e⟩, hne⟩)
    · exact ⟨_, hr, by rw [e, lft]⟩
    · rw [lh_bas hg ha m hk] at e
      split at e
      · exact absurd e.symm hne
      · exact ⟨k, hk, e⟩

theorem lh_back (hg : IsGm g) (ha : a < nG g) {i j : Nat} (hs : ∀ b, lhS g a (i + 1) b ↔ lhS g a (j + 1) b) (hv : (lhIt g a (i + 1)).v = (lhIt g a (j + 1)).v) : (∀ b, lhS g a i b ↔ lhS g a j b) ∧ (lhIt g a i).v = (lhIt g a j).v := by
  have i1 := lh_inv hg ha i
  have j1 := lh_inv hg ha j
  have i2 := lh_inv hg ha (i + 1)
  have j2 := lh_inv hg ha (j + 1)
  have l1 := (i1.next hg).2
  have l2 := (j1.next hg).2
  have el : lhLeft (nG g) (lhIt g a i) = lhLeft (nG g) (lhIt g a j) := by rw [lh_left hg ha i, lh_left hg ha j, hv]
  have hri := (i1.least hg).1.lt
  have hrj := (j1.least hg).1.lt
  have hlb := (i1.bas hri).2
  have ev : (lhIt g a i).v = (lhIt g a j).v := by
    have e1 : basF (lhIt g a (i + 1)) (lhRow (nG g) (lhIt g a i)) = (lhIt g a i).v := by rw [lh_bas hg ha i hri, if_pos rfl]
    have e2 : basF (lhIt g a (j + 1)) (lhRow (nG g) (lhIt g a j)) = (lhIt g a j).v := by rw [lh_bas hg ha j hrj, if_pos rfl]
    rw [← e1, ← e2]
    rw [← el] at l2
    have l1' : Least (nG g) (2 * nG g) (mAt (lhIt g a (i + 1)).rows) (lhLeft (nG g) (lhIt g a i)) (lhRow (nG g) (lhIt g a i)) := l1
    have l2' : Least (nG g) (2 * nG g) (mAt (lhIt g a (j + 1)).rows) (lhLeft (nG g) (lhIt g a i)) (lhRow (nG g) (lhIt g a j)) := l2
    refine Tabl.same i2.tab j2.tab hs (by omega) (v := lhLeft (nG g) (lhIt g a i)) ?_ l1' l2'
    have : lhLeft (nG g) (lhIt g a i) < 2 * nG g := hlb
    omega
  refine ⟨fun b => ?_, ev⟩
  rw [lh_prev hg ha i b, lh_prev hg ha j b, el, ev, hs b]

/-- The way ends. -/
theorem lh_ends (hg : IsGm g) (ha : a < nG g) : ∃ M, lhEnd g a M := by
  classical
  have code : ∀ m, ∃ s, s < 2 ^ (2 * nG g) ∧ ∀ b, b < 2 * nG g → s.testBit b = decide (lhS g a m b) := fun m => bits_ex _ _
  have hv := fun m => (lh_inv hg ha m).vl
  obtain ⟨i, j, hij, e⟩ := pigeon2 (2 ^ (2 * nG g) * (2 * nG g)) (fun m => Classical.choose (code m) * (2 * nG g) + (lhIt g a m).v) fun m => by
    have h1 := (Classical.choose_spec (code m)).1
    have h2 := hv m
    have h3 : (Classical.choose (code m) + 1) * (2 * nG g) ≤ 2 ^ (2 * nG g) * (2 * nG g) := Nat.mul_le_mul_right _ h1
    rw [Nat.succ_mul] at h3
    omega
  have hvi := hv i
  have hvj := hv j
  have e : Classical.choose (code i) * (2 * nG g) + (lhIt g a i).v = Classical.choose (code j) * (2 * nG g) + (lhIt g a j).v := e
  have pos : 0 < 2 * nG g := by omega
  have ev : (lhIt g a i).v = (lhIt g a j).v := by
    have h1 : ((lhIt g a i).v + Classical.choose (code i) * (2 * nG g)) % (2 * nG g) = ((lhIt g a j).v + Classical.choose (code j) * (2 * nG g)) % (2 * nG g) := by
      rw [Nat.add_comm, e, Nat.add_comm]
    rw [Nat.add_mul_mod_self_right, Nat.add_mul_mod_self_right, Nat.mod_eq_of_lt hvi, Nat.mod_eq_of_lt hvj] at h1
    exact h1
  have es : Classical.choose (code i) = Classical.choose (code j) := by
    rw [ev] at e
    exact Nat.eq_of_mul_eq_mul_right pos (by omega)
  have set : ∀ b, lhS g a i b ↔ lhS g a j b := fun b => by
    by_cases hb : b < 2 * nG g
    · have h1 := (Classical.choose_spec (code i)).2 b hb
      have h2 := (Classical.choose_spec (code j)).2 b hb
      rw [es, h2] at h1
      exact ⟨fun q => of_decide_eq_true (by rw [h1]; exact decide_eq_true q), fun q => of_decide_eq_true (by rw [← h1]; exact decide_eq_true q)⟩
    · have no : ∀ m, ¬ lhS g a m b := fun m ⟨k, hk, q⟩ => by
        have := ((lh_inv hg ha m).bas hk).2
        omega
      exact ⟨fun q => absurd q (no i), fun q => absurd q (no j)⟩
  -- back to the start
  have down : ∀ i j, (∀ b, lhS g a i b ↔ lhS g a j b) → (lhIt g a i).v = (lhIt g a j).v → i < j → ∃ d, (lhIt g a 0).v = (lhIt g a (d + 1)).v := fun i => by
    induction i with
    | zero => exact fun j hs hv hij => ⟨j - 1, by rw [show j - 1 + 1 = j by omega]; exact hv⟩
    | succ i ih =>
      intro j hs hv hij
      obtain ⟨j, rfl⟩ : ∃ k, j = k + 1 := ⟨j - 1, by omega⟩
      obtain ⟨h1, h2⟩ := lh_back hg ha hs hv
      exact ih j h1 h2 (by omega)
  obtain ⟨d, hd⟩ := down i j set ev hij
  refine ⟨d, .inl ?_⟩
  rw [lh_left hg ha d, ← hd]
  show partN (nG g) (nG g + a) = a
  unfold partN
  rw [if_neg (by omega)]
  omega

theorem lh_first_end (hg : IsGm g) (ha : a < nG g) : ∃ M, lhEnd g a M ∧ ∀ m, m < M → ¬ lhEnd g a m := by
  obtain ⟨m, h⟩ := lh_ends hg ha
  induction m using Nat.strongRecOn with
  | _ m ih =>
    by_cases c : ∃ j, j < m ∧ lhEnd g a j
    · obtain ⟨j, h3, h4⟩ := c
      exact ih j h3 h4
    · exact ⟨m, h, fun j hj e => c ⟨j, hj, e⟩⟩

theorem det_abs0 {x y : Int} (h : x.natAbs = y.natAbs) (hy : y ≠ 0) : x ≠ 0 := by omega

theorem sgI_mul {x : Int} (h : x ≠ 0) : sgI x * x = (x.natAbs : Int) := by
  unfold sgI
  split
  · omega
  · rw [if_pos (by omega)]
    omega

/-- So a set shows an equilibrium. -/
theorem eq_exists (hg : IsGm g) : ∃ s, 1 ≤ s ∧ s ≤ 2 ^ nG g - 1 ∧ eqB (nG g) (gmP g) s = true ∧ (eqZ g s).sum ≠ 0 := by
  classical
  have hk1 := hg.k1
  have hn0 : 0 < nG g := by show 0 < g.1.length + lw g; omega
  obtain ⟨M, hM, hno⟩ := lh_first_end hg hn0
  have w := lh_way hg hn0 hno hM
  have inv := lh_inv hg hn0 (M + 1)
  obtain ⟨s1, _⟩ := lh_parts hg hn0 hno hM
  have comp : ∀ j, j < nG g → ¬ (lhS g 0 (M + 1) j ∧ lhS g 0 (M + 1) (nG g + j)) := fun j hj => w.comp hj
  have hinj := inv.tab.inj
  have hbl := fun k (hk : k < nG g) => (inv.bas hk).2
  -- the place of a basic variable
  let σ : Nat → Nat := fun k => if basF (lhIt g 0 (M + 1)) k < nG g then basF (lhIt g 0 (M + 1)) k else basF (lhIt g 0 (M + 1)) k - nG g
  have σl : ∀ k, k < nG g → σ k < nG g := fun k hk => by
    have hb2 : basF (lhIt g 0 (M + 1)) k < 2 * nG g := hbl k hk
    show (if basF (lhIt g 0 (M + 1)) k < nG g then basF (lhIt g 0 (M + 1)) k else basF (lhIt g 0 (M + 1)) k - nG g) < nG g
    by_cases c : basF (lhIt g 0 (M + 1)) k < nG g
    · rw [if_pos c]; exact c
    · rw [if_neg c]; omega
  have σi : Inj (nG g) σ := fun i j hi hj e => by
    have e : (if basF (lhIt g 0 (M + 1)) i < nG g then basF (lhIt g 0 (M + 1)) i else basF (lhIt g 0 (M + 1)) i - nG g) = (if basF (lhIt g 0 (M + 1)) j < nG g then basF (lhIt g 0 (M + 1)) j else basF (lhIt g 0 (M + 1)) j - nG g) := e
    have bi := hbl i hi
    have bj := hbl j hj
    by_cases ci : basF (lhIt g 0 (M + 1)) i < nG g <;> by_cases cj : basF (lhIt g 0 (M + 1)) j < nG g
    · rw [if_pos ci, if_pos cj] at e
      exact hinj i j hi hj e
    · rw [if_pos ci, if_neg cj] at e
      exact absurd ⟨⟨i, hi, rfl⟩, ⟨j, hj, by omega⟩⟩ (comp (basF (lhIt g 0 (M + 1)) i) ci)
    · rw [if_neg ci, if_pos cj] at e
      exact absurd ⟨⟨j, hj, rfl⟩, ⟨i, hi, by omega⟩⟩ (comp (basF (lhIt g 0 (M + 1)) j) cj)
    · rw [if_neg ci, if_neg cj] at e
      exact hinj i j hi hj (by omega)
  obtain ⟨s, hs, hbit⟩ := bits_ex (fun i => decide (lhS g 0 (M + 1) (nG g + i))) (nG g)
  have hcol : ∀ r k, r < nG g → k < nG g → mAt (colL (nG g) (gmP g).1 s) r (σ k) = lhE g r (basF (lhIt g 0 (M + 1)) k) := fun r k hr hk => by
    have hσ := σl k hk
    rw [colL_at hr hσ]
    unfold colE
    rw [hbit _ hσ]
    have bk := hbl k hk
    by_cases c : basF (lhIt g 0 (M + 1)) k < nG g
    · have eσ : σ k = basF (lhIt g 0 (M + 1)) k := if_pos c
      rw [if_neg fun q => comp _ c ⟨⟨k, hk, rfl⟩, by have := of_decide_eq_true q; rw [eσ] at this; exact this⟩, eσ]
      unfold lhE
      rw [if_pos c]
    · have eσ : σ k = basF (lhIt g 0 (M + 1)) k - nG g := if_neg c
      rw [if_pos (decide_eq_true ⟨k, hk, by rw [eσ]; omega⟩)]
      have hm : mAt (gmP g).1 r (σ k) = gmE g r (σ k) := tabL_at hr hσ
      rw [hm, eσ]
      unfold lhE
      rw [if_neg c, if_pos bk]
  have hD : det (nG g) (mAt (colL (nG g) (gmP g).1 s)) ≠ 0 := by
    have h1 := det_pc (nG g) (Nat.le_refl _) (mAt (colL (nG g) (gmP g).1 s)) σ σi σl fun i h1 h2 => by omega
    have h2 : det (nG g) (fun i j => mAt (colL (nG g) (gmP g).1 s) i (σ j)) = det (nG g) (BM (lhE g) (basF (lhIt g 0 (M + 1)))) := det_congr fun i j hi hj => hcol i j hi hj
    rw [h2] at h1
    exact det_abs0 h1.symm inv.tab.ne
  -- the numbers
  let y : Nat → Int := fun c => Go.Ab.sumTo (nG g) fun k => if σ k = c then mAt (lhIt g 0 (M + 1)).rows k (2 * nG g) else 0
  have yσ : ∀ k, k < nG g → y (σ k) = mAt (lhIt g 0 (M + 1)).rows k (2 * nG g) := fun k hk => by
    show Go.Ab.sumTo (nG g) _ = _
    rw [Go.Ab.sumTo_one hk fun i hi hne => if_neg fun q => hne (σi i k hi hk q), if_pos rfl]
  have hsol : ∀ r, r < nG g → Go.Ab.sumTo (nG g) (fun c => mAt (colL (nG g) (gmP g).1 s) r c * y c) = (gmP g).2.getD r 0 * (lhIt g 0 (M + 1)).den := fun r hr => by
    have e1 : Go.Ab.sumTo (nG g) (fun c => mAt (colL (nG g) (gmP g).1 s) r c * y c) = Go.Ab.sumTo (nG g) fun k => lhE g r (basF (lhIt g 0 (M + 1)) k) * mAt (lhIt g 0 (M + 1)).rows k (2 * nG g) := by
      rw [sum_img (n := nG g) (N := nG g) σi σl fun b hb hn => absurd (inj_all σi σl hb) fun ⟨k, hk, e⟩ => hn k hk e]
      exact Go.Ab.sumTo_congr fun k hk => by rw [yσ k hk, hcol r k hr hk]
    rw [e1, inv.tab.eq r (2 * nG g) hr (by omega)]
    have e2 : (gmP g).2.getD r 0 = 1 := by simp [gmP, List.getD_eq_getElem?_getD, List.getElem?_replicate, hr]
    have e3 : lhE g r (2 * nG g) = 1 := by
      unfold lhE
      rw [if_neg (by omega), if_neg (by omega)]
    rw [e2, e3, Int.mul_one, Int.one_mul]
  have hden := inv.tab.pos
  have hpt : ∀ k, k < nG g → (ptOf (nG g) (gmP g) s).getD k 0 * (lhIt g 0 (M + 1)).den = y k * ((det (nG g) (mAt (colL (nG g) (gmP g).1 s))).natAbs : Int) := fun k hk => by
    have h1 := solve_told (q := (gmP g).2) (colL_sq (nG g) (gmP g).1 s) hsol hk
    rw [pt_at hk, Int.mul_assoc, h1, ← sgI_mul hD]
    ac_rfl
  have hy0 : ∀ k, k < nG g → 0 ≤ y k := fun k hk => by
    obtain ⟨j, hj, rfl⟩ := inj_all σi σl hk
    rw [yσ j hj]
    exact inv.right hj
  have hDp : 0 < ((det (nG g) (mAt (colL (nG g) (gmP g).1 s))).natAbs : Int) := by omega
  have hp0 : ∀ k, k < nG g → 0 ≤ (ptOf (nG g) (gmP g) s).getD k 0 := fun k hk => by
    refine Classical.byContradiction fun q => ?_
    have h1 := hpt k hk
    have h2 := Int.mul_nonneg (hy0 k hk) (Int.le_of_lt hDp)
    have h3 : (ptOf (nG g) (gmP g) s).getD k 0 * (lhIt g 0 (M + 1)).den < 0 := Int.mul_neg_of_neg_of_pos (by omega) hden
    omega
  have hlen := ptOf_len (n := nG g) (p := gmP g) s
  have hf : ∀ x ∈ ptOf (nG g) (gmP g) s, 0 ≤ x := fun x hx => by
    obtain ⟨k, hk, rfl⟩ := List.mem_iff_getElem.1 hx
    rw [← atD hk]
    exact hp0 k (by omega)
  -- one that is not 0
  obtain ⟨j, hj, hz⟩ : ∃ j, j < nG g ∧ (zOf (nG g) (lhIt g 0 (M + 1))).getD j 0 ≠ 0 := by
    obtain ⟨x, hx, hne⟩ := sum_some s1
    obtain ⟨j, hj, rfl⟩ := List.mem_iff_getElem.1 (List.mem_of_mem_take hx)
    exact ⟨j, by rw [zOf_len] at hj; exact hj, by rw [atD hj]; exact hne⟩
  obtain ⟨k, hk, ek⟩ : ∃ k, k < nG g ∧ basF (lhIt g 0 (M + 1)) k = nG g + j := Classical.byContradiction fun q => hz (by
    rw [zOf_at hinj hj]
    exact Go.Ab.sumTo_zero fun i hi => if_neg fun e => q ⟨i, hi, e⟩)
  have hbj : s.testBit j = true := by rw [hbit j hj]; exact decide_eq_true ⟨k, hk, ek⟩
  have eσ : σ k = j := by
    show (if _ then _ else _) = _
    rw [if_neg (by omega)]
    omega
  have hzj : (zOf (nG g) (lhIt g 0 (M + 1))).getD j 0 = y j := by
    rw [zOf_at hinj hj, Go.Ab.sumTo_one hk fun i hi hne => if_neg fun q => hne (hinj i k hi hk (q.trans ek.symm)), if_pos ek, ← eσ, yσ k hk]
  have hpj : (ptOf (nG g) (gmP g) s).getD j 0 ≠ 0 := fun q => by
    have h1 := hpt j hj
    rw [q, Int.zero_mul] at h1
    rcases Int.mul_eq_zero.1 h1.symm with e | e
    · exact hz (by rw [hzj]; exact e)
    · omega
  have hzl := eqZ_len g s
  have hsum : (eqZ g s).sum ≠ 0 := by
    refine sum_pos (eqZ_pos hf) ⟨(eqZ g s)[j]'(by omega), List.getElem_mem (by omega), ?_⟩
    have e : (eqZ g s)[j]'(by omega) = if s.testBit j then (ptOf (nG g) (gmP g) s).getD j 0 else 0 := onlyL_at (n := nG g) (l := ptOf (nG g) (gmP g) s) (s := s) (by have := hzl; unfold eqZ at this; omega)
    rw [e, if_pos hbj]
    exact hpj
  refine ⟨s, ?_, by omega, ?_, hsum⟩
  · rcases Nat.eq_zero_or_pos s with e | e
    · subst e; simp at hbj
    · exact e
  · rw [eqB_of hD]
    exact List.all_eq_true.2 fun x hx => decide_eq_true (hf x hx)

/-- A set's solution. -/
theorem eq_eqz (hg : IsGm g) {s : Nat} (hB : eqB (nG g) (gmP g) s = true) (ht : (eqZ g s).sum ≠ 0) : EqZ g (eqZ g s) ((det (nG g) (mAt (colL (nG g) (gmP g).1 s))).natAbs : Int) := by
  unfold eqB at hB
  rw [Bool.and_eq_true] at hB
  have hD := of_decide_eq_true hB.1
  have hf : ∀ x ∈ ptOf (nG g) (gmP g) s, 0 ≤ x := fun x hx => of_decide_eq_true (List.all_eq_true.1 hB.2 x hx)
  obtain ⟨p1, p2⟩ := eq_parts hg hD hf ht
  have hpl := ptOf_len (n := nG g) (p := gmP g) s
  have hzl := eqZ_len g s
  have zat : ∀ i, i < nG g → (eqZ g s).getD i 0 = if s.testBit i then (ptOf (nG g) (gmP g) s).getD i 0 else 0 := fun i hi => by
    have h1 : i < (eqZ g s).length := by omega
    rw [atD h1]
    exact onlyL_at h1
  refine gq_of hzl (eqZ_pos hf) (by omega) (fun r hr => ?_) p1 p2
  have hrow := pt_row (p := gmP g) (s := s) hr
  have hq : (gmP g).2.getD r 0 = 1 := by simp [gmP, List.getD_eq_getElem?_getD, List.getElem?_replicate, hr]
  have hsum : Go.Ab.sumTo (nG g) (fun c => mAt (gmP g).1 r c * (if s.testBit c then (ptOf (nG g) (gmP g) s).getD c 0 else 0)) = -(Go.Ab.sumTo (nG g) fun j => -(gmE g r j) * (eqZ g s).getD j 0) := by
    rw [← Go.Ab.sumTo_neg]
    refine Go.Ab.sumTo_congr fun c hc => ?_
    have hm : mAt (gmP g).1 r c = gmE g r c := tabL_at hr hc
    rw [hm, zat c hc, Int.neg_mul, Int.neg_neg]
  rw [hsum, hq, Int.one_mul] at hrow
  have hw : 0 ≤ (if s.testBit r then 0 else (ptOf (nG g) (gmP g) s).getD r 0) := by
    split
    · exact Int.le_refl 0
    · rw [atD (by omega)]; exact hf _ (List.getElem_mem (by omega))
  refine ⟨by omega, fun hne => ?_⟩
  have hb : s.testBit r = true := by
    cases hb : s.testBit r with
    | true => rfl
    | false => rw [zat r hr, hb] at hne; exact absurd rfl hne
  rw [hb] at hrow
  simp only [if_true] at hrow
  omega

/-- What the list holds. -/
theorem eqTo_all (g : Game) : ∀ m, (eqTo g m).2 = 0 → (∀ e ∈ (eqTo g m).1, ∃ s, eqB (nG g) (gmP g) s = true ∧ (eqZ g s).sum ≠ 0 ∧ (mixV g.1.length (eqZ g s)).2 = 0 ∧ e = (mixV g.1.length (eqZ g s)).1) ∧
    ∀ s, 1 ≤ s → s ≤ m → eqB (nG g) (gmP g) s = true → (eqZ g s).sum ≠ 0 → (mixV g.1.length (eqZ g s)).1 ∈ (eqTo g m).1
  | 0, _ => ⟨fun e he => (by cases he), fun s h1 h2 => by omega⟩
  | m + 1, h => by
    have h0 : (eqTo g m).2 = 0 := Classical.byContradiction fun q => by
      have e : eqTo g (m + 1) = eqTo g m := eqTo_bad q 1
      rw [e] at h
      exact q h
    obtain ⟨i1, i2⟩ := eqTo_all g m h0
    have e : eqTo g (m + 1) = eqStep g (m + 1) (eqTo g m).1 := by
      show (if (eqTo g m).2 = 0 then eqStep g (m + 1) (eqTo g m).1 else eqTo g m) = _
      rw [if_pos h0]
    rw [e] at h ⊢
    have split_ : ∀ s, 1 ≤ s → s ≤ m + 1 → s ≤ m ∨ s = m + 1 := fun s _ h => by omega
    unfold eqStep at h ⊢
    by_cases hB : eqB (nG g) (gmP g) (m + 1) = true
    · rw [if_pos hB] at h ⊢
      by_cases hS : (eqZ g (m + 1)).sum = 0
      · rw [if_pos hS] at h ⊢
        refine ⟨i1, fun s h1 h2 hb hs => ?_⟩
        rcases split_ s h1 h2 with q | q
        · exact i2 s h1 q hb hs
        · subst q; exact absurd hS hs
      · rw [if_neg hS] at h ⊢
        by_cases hm : (mixV g.1.length (eqZ g (m + 1))).2 = 0
        · rw [if_pos hm] at h ⊢
          by_cases ha : ((eqTo g m).1.any fun o => decide ((mixV g.1.length (eqZ g (m + 1))).1 = o)) = true
          · rw [if_pos ha] at h ⊢
            refine ⟨i1, fun s h1 h2 hb hs => ?_⟩
            rcases split_ s h1 h2 with q | q
            · exact i2 s h1 q hb hs
            · subst q
              obtain ⟨o, ho, e⟩ := List.any_eq_true.1 ha
              rw [of_decide_eq_true e]
              exact ho
          · rw [if_neg ha] at h ⊢
            refine ⟨fun e he => ?_, fun s h1 h2 hb hs => ?_⟩
            · rcases List.mem_append.1 he with he | he
              · exact i1 e he
              · rw [List.mem_singleton] at he
                exact ⟨m + 1, hB, hS, hm, he⟩
            · rcases split_ s h1 h2 with q | q
              · exact List.mem_append.2 (.inl (i2 s h1 q hb hs))
              · subst q; exact List.mem_append.2 (.inr (List.mem_singleton.2 rfl))
        · rw [if_neg hm] at h
          exact absurd h hm
    · rw [if_neg hB] at h ⊢
      refine ⟨i1, fun s h1 h2 hb hs => ?_⟩
      rcases split_ s h1 h2 with q | q
      · exact i2 s h1 q hb hs
      · subst q; exact absurd hb hB

theorem eqRes_good {g : Game} (h : (eqRes g).2 = 0) : IsGm g ∧ (eqRes g).1 ≠ [] ∧ ∀ e ∈ (eqRes g).1, ∃ z D, EqZ g z D ∧ (mixV g.1.length z).2 = 0 ∧ e = (mixV g.1.length z).1 := by
  classical
  by_cases hg : IsGm g
  · have hres : eqRes g = eqTo g (2 ^ nG g - 1) := by unfold eqRes; rw [if_pos hg]
    rw [hres] at h ⊢
    obtain ⟨h1, h2⟩ := eqTo_all g _ h
    refine ⟨hg, fun e => ?_, fun e he => ?_⟩
    · obtain ⟨s, s1, s2, s3, s4⟩ := eq_exists hg
      have := h2 s s1 s2 s3 s4
      rw [e] at this
      cases this
    · obtain ⟨s, s1, s2, s3, s4⟩ := h1 e he
      exact ⟨_, _, eq_eqz hg s1 s2, s3, s4⟩
  · unfold eqRes at h
    rw [if_neg hg] at h
    exact absurd h (by decide)

end
end Go.Proofs.YtbcfknboheghkaaGreat
