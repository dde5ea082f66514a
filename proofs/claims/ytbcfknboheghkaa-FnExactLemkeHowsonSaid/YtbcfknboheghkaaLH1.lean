/- The end of the method of Lemke and Howson: both parts are not 0; what it answers. No condition. -/
import Derived.Test.YtbcfknboheghkaaLH0
namespace Go.Proofs.Ytbcfknboheghkaa
open Go.Ab

/-- What leaves is that of a. -/
def lhEnd (g : Game) (a m : Nat) : Prop := lhLeft (nG g) (lhIt g a m) = a ∨ lhLeft (nG g) (lhIt g a m) = nG g + a

section
variable {g : Game} {a : Nat}

theorem lh_way (hg : IsGm g) (ha : a < nG g) {M : Nat} (hno : ∀ m, m < M → ¬ lhEnd g a m) (hM : lhEnd g a M) :
    LWay (nG g) (lhE g) a M (fun m => basF (lhIt g a m)) (fun m => mAt (lhIt g a m).rows) (fun m => (lhIt g a m).den) (fun m => (lhIt g a m).v) (fun m => lhRow (nG g) (lhIt g a m)) := by
  have inv := lh_inv hg ha
  have lft : ∀ m, lhLeft (nG g) (lhIt g a m) = basF (lhIt g a m) (lhRow (nG g) (lhIt g a m)) := fun m => rfl
  refine ⟨fun m _ => (inv m).tab, fun m _ k hk => ((inv m).bas hk).2, fun m _ => (inv m).vl, fun m _ => ((inv m).least hg).1, fun m _ => ((inv m).next hg).2, fun m _ k hk => ?_, fun m _ => rfl, fun m hm => ?_, hM, rfl, fun k hk => ?_, ha⟩
  · have hr := ((inv m).least hg).1.lt
    show (((lhIt g a m).bas.set (lhRow (nG g) (lhIt g a m)) ((lhIt g a m).v : Nat)).getD k 0).toNat = _
    by_cases e : k = lhRow (nG g) (lhIt g a m)
    · rw [if_pos e, e]
      have : lhRow (nG g) (lhIt g a m) < (lhIt g a m).bas.length := by rw [(inv m).bl]; exact hr
      simp [List.getD_eq_getElem?_getD, this]
    · rw [if_neg e]
      show _ = ((lhIt g a m).bas.getD k 0).toNat
      simp [List.getD_eq_getElem?_getD, List.getElem?_set_ne (fun q => e q.symm)]
  · have := hno m hm
    exact ⟨fun q => this (.inl q), fun q => this (.inr q)⟩
  · show (((List.range (nG g)).map fun i => ((i : Nat) : Int)).getD k 0).toNat = k
    simp [List.getD_eq_getElem?_getD, hk]

/-- The numbers of z, told row by row. -/
def zTo (n : Nat) (s : LhS) : Nat → List Int
  | 0 => List.replicate n 0
  | i + 1 => if n ≤ basF s i then (zTo n s i).set (basF s i - n) (mAt s.rows i (2 * n)) else zTo n s i
def zOf (n : Nat) (s : LhS) : List Int := zTo n s n

theorem zTo_len (n : Nat) (s : LhS) : ∀ i, (zTo n s i).length = n
  | 0 => by simp [zTo]
  | i + 1 => by
    unfold zTo
    split
    · rw [List.length_set, zTo_len n s i]
    · exact zTo_len n s i

theorem zTo_at {n : Nat} {s : LhS} (hi : Inj n (basF s)) : ∀ i, i ≤ n → ∀ j, j < n → (zTo n s i).getD j 0 = Go.Ab.sumTo i fun k => if basF s k = n + j then mAt s.rows k (2 * n) else 0
  | 0, _, j, hj => by
    show (List.replicate n (0 : Int)).getD j 0 = 0
    simp [List.getD_eq_getElem?_getD, List.getElem?_replicate, hj]
  | i + 1, hin, j, hj => by
    have ih := zTo_at hi i (by omega) j hj
    have hl := zTo_len n s i
    show _ = (Go.Ab.sumTo i fun k => if basF s k = n + j then mAt s.rows k (2 * n) else 0) + if basF s i = n + j then mAt s.rows i (2 * n) else 0
    unfold zTo
    by_cases c : n ≤ basF s i
    · rw [if_pos c]
      by_cases e : basF s i = n + j
      · rw [if_pos e, show basF s i - n = j by omega]
        have z : (Go.Ab.sumTo i fun k => if basF s k = n + j then mAt s.rows k (2 * n) else 0) = 0 := Go.Ab.sumTo_zero fun k hk => if_neg fun q => by
          have := hi k i (by omega) (by omega) (q.trans e.symm)
          omega
        rw [z, Int.zero_add]
        simp [List.getD_eq_getElem?_getD, hl, hj]
      · rw [if_neg e, Int.add_zero, ← ih]
        simp only [List.getD_eq_getElem?_getD]
        rw [List.getElem?_set_ne (by omega)]
    · rw [if_neg c, if_neg (by omega), Int.add_zero, ih]

theorem zOf_len (n : Nat) (s : LhS) : (zOf n s).length = n := zTo_len n s n

theorem zOf_at {n : Nat} {s : LhS} (hi : Inj n (basF s)) {j : Nat} (hj : j < n) : (zOf n s).getD j 0 = Go.Ab.sumTo n fun k => if basF s k = n + j then mAt s.rows k (2 * n) else 0 := zTo_at hi n (Nat.le_refl n) j hj

theorem lex_first {m : Nat} {f : Nat → Int} (h : lexPos m f) : 0 ≤ f 0 := by
  obtain ⟨j, _, h1, h2⟩ := h
  by_cases e : j = 0
  · subst e
    exact Int.le_of_lt h1
  · rw [← h2 0 (by omega)]
    exact Int.le_refl 0

theorem LhI.right {s : LhS} (h : LhI g s) {k : Nat} (hk : k < nG g) : 0 ≤ mAt s.rows k (2 * nG g) := by
  have := lex_first (h.pos k hk)
  unfold keyF lhW at this
  rw [if_pos rfl] at this
  exact this

theorem zOf_abs (hg : IsGm g) {s : LhS} (h : LhI g s) : ∀ x ∈ zOf (nG g) s, 0 ≤ x ∧ x.natAbs ≤ 384000000 := fun x hx => by
  obtain ⟨j, hj, rfl⟩ := List.mem_iff_getElem.1 hx
  have hj2 : j < nG g := by rw [zOf_len] at hj; exact hj
  rw [← atD hj, zOf_at h.tab.inj hj2]
  by_cases c : ∃ k, k < nG g ∧ basF s k = nG g + j
  · obtain ⟨k, hk, e⟩ := c
    rw [Go.Ab.sumTo_one hk fun i hi hne => if_neg fun q => hne (h.tab.inj i k hi hk (q.trans e.symm)), if_pos e]
    exact ⟨h.right hk, h.tab.abs hg.kl (fun i c _ _ => lhE_abs hg i c) hk (by omega)⟩
  · rw [Go.Ab.sumTo_zero fun k hk => if_neg fun q => c ⟨k, hk, q⟩]
    decide

/-- A row of the system, by w and z. -/
theorem lh_row (hg : IsGm g) {s : LhS} (h : LhI g s) {i : Nat} (hi : i < nG g) (hn : ∀ k, k < nG g → basF s k ≠ i) : (Go.Ab.sumTo (nG g) fun j => -(gmE g i j) * (zOf (nG g) s).getD j 0) = s.den := by
  have hN : ∀ k, k < nG g → basF s k < 2 * nG g := fun k hk => (h.bas hk).2
  have e := h.tab.eq i (2 * nG g) hi (by omega)
  have e1 : s.den * lhE g i (2 * nG g) = s.den := by
    unfold lhE
    rw [if_neg (by omega), if_neg (by omega), Int.mul_one]
  rw [e1] at e
  rw [← e]
  -- by variables
  have e2 : (Go.Ab.sumTo (nG g) fun j => -(gmE g i j) * (zOf (nG g) s).getD j 0) = Go.Ab.sumTo (nG g) fun j => Go.Ab.sumTo (nG g) fun k => if basF s k = nG g + j then -(gmE g i j) * mAt s.rows k (2 * nG g) else 0 := Go.Ab.sumTo_congr fun j hj => by
    rw [zOf_at h.tab.inj hj, ← Go.Ab.sumTo_mul]
    refine Go.Ab.sumTo_congr fun k _ => ?_
    split
    · rfl
    · rw [Int.mul_zero]
  rw [e2, Go.Ab.sumTo_swap]
  refine Go.Ab.sumTo_congr fun k hk => ?_
  have hk2 := hN k hk
  by_cases c : basF s k < nG g
  · rw [Go.Ab.sumTo_zero fun j _ => if_neg (by omega)]
    unfold lhE
    rw [if_pos c, if_neg (fun q => hn k hk q.symm), Int.zero_mul]
  · rw [Go.Ab.sumTo_one (c := basF s k - nG g) (by omega) fun j _ hne => if_neg (by omega), if_pos (by omega)]
    unfold lhE
    rw [if_neg c, if_pos hk2]

theorem lh_other (hg : IsGm g) {s : LhS} (h : LhI g s) {i : Nat} (hi : i < nG g) (hn : ∀ k, k < nG g → basF s k ≠ i) : ∃ j, j < nG g ∧ (zOf (nG g) s).getD j 0 ≠ 0 ∧ ((i < g.1.length ∧ g.1.length ≤ j) ∨ (g.1.length ≤ i ∧ j < g.1.length)) := by
  refine Classical.byContradiction fun hno => ?_
  have e := lh_row hg h hi hn
  rw [Go.Ab.sumTo_zero fun j hj => ?_] at e
  · have := h.tab.pos
    omega
  · by_cases hpart : (i < g.1.length ∧ g.1.length ≤ j) ∨ (g.1.length ≤ i ∧ j < g.1.length)
    · have hz : (zOf (nG g) s).getD j 0 = 0 := Classical.byContradiction fun hne => hno ⟨j, hj, hne, hpart⟩
      rw [hz, Int.mul_zero]
    · have : gmE g i j = 0 := by
        unfold gmE
        rw [if_neg (fun q => hpart (.inl q)), if_neg (fun q => hpart (.inr q))]
      rw [this, Int.neg_zero, Int.zero_mul]

theorem lh_parts (hg : IsGm g) (ha : a < nG g) {M : Nat} (hno : ∀ m, m < M → ¬ lhEnd g a m) (hM : lhEnd g a M) :
    ((zOf (nG g) (lhIt g a (M + 1))).take g.1.length).sum ≠ 0 ∧ ((zOf (nG g) (lhIt g a (M + 1))).drop g.1.length).sum ≠ 0 := by
  have w := lh_way hg ha hno hM
  have inv := lh_inv hg ha (M + 1)
  have hz : ∀ x ∈ zOf (nG g) (lhIt g a (M + 1)), 0 ≤ x := fun x hx => (zOf_abs hg inv x hx).1
  have hl := zOf_len (nG g) (lhIt g a (M + 1))
  -- a number of z that is not 0 is one of the table, so its w is not
  have non : ∀ j, j < nG g → (zOf (nG g) (lhIt g a (M + 1))).getD j 0 ≠ 0 → ∀ k, k < nG g → basF (lhIt g a (M + 1)) k ≠ j := fun j hj hne k hk e => by
    rw [zOf_at inv.tab.inj hj] at hne
    refine hne (Go.Ab.sumTo_zero fun i hi => if_neg fun q => ?_)
    exact w.comp hj ⟨⟨k, hk, e⟩, ⟨i, hi, q⟩⟩
  have start : ∃ i, i < nG g ∧ ∀ k, k < nG g → basF (lhIt g a (M + 1)) k ≠ i := by
    refine Classical.byContradiction fun hno => w.off fun b => ?_
    have all : ∀ i, i < nG g → ∃ k, k < nG g ∧ basF (lhIt g a (M + 1)) k = i := fun i hi => Classical.byContradiction fun q => hno ⟨i, hi, fun k hk e => q ⟨k, hk, e⟩⟩
    constructor
    · rintro ⟨k, hk, rfl⟩
      by_cases c : basF (lhIt g a (M + 1)) k < nG g
      · exact ⟨_, c, w.b0 _ c⟩
      · exfalso
        have h2 := (inv.bas hk).2
        obtain ⟨k2, hk2, e⟩ := all (basF (lhIt g a (M + 1)) k - nG g) (by omega)
        refine w.comp (j := basF (lhIt g a (M + 1)) k - nG g) (by omega) ⟨⟨k2, hk2, e⟩, ⟨k, hk, by show basF (lhIt g a (M + 1)) k = _; omega⟩⟩
    · rintro ⟨k, hk, e⟩
      have : k = b := (w.b0 k hk).symm.trans e
      subst this
      exact all k hk
  obtain ⟨i, hi, hin⟩ := start
  obtain ⟨j, hj, hjz, hp⟩ := lh_other hg inv hi hin
  obtain ⟨j2, hj2, hjz2, hp2⟩ := lh_other hg inv hj (non j hj hjz)
  have lo : ∀ j, j < nG g → (zOf (nG g) (lhIt g a (M + 1))).getD j 0 ≠ 0 → j < g.1.length → ((zOf (nG g) (lhIt g a (M + 1))).take g.1.length).sum ≠ 0 := fun j hj hne hk =>
    sum_pos (fun x hx => hz x (List.mem_of_mem_take hx)) ⟨_, List.mem_take_iff_getElem.2 ⟨j, by omega, rfl⟩, by rw [← atD (by omega)]; exact hne⟩
  have hi' : ∀ j, j < nG g → (zOf (nG g) (lhIt g a (M + 1))).getD j 0 ≠ 0 → g.1.length ≤ j → ((zOf (nG g) (lhIt g a (M + 1))).drop g.1.length).sum ≠ 0 := fun j hj hne hk =>
    sum_pos (fun x hx => hz x (List.mem_of_mem_drop hx)) ⟨(zOf (nG g) (lhIt g a (M + 1)))[j]'(by omega), List.mem_iff_getElem.2 ⟨j - g.1.length, by simp; omega, by simp [show g.1.length + (j - g.1.length) = j by omega]⟩, by rw [← atD (by omega)]; exact hne⟩
  rcases hp with ⟨h1, h2⟩ | ⟨h1, h2⟩
  · rcases hp2 with ⟨h3, h4⟩ | ⟨h3, h4⟩
    · omega
    · exact ⟨lo j2 hj2 hjz2 h4, hi' j hj hjz h2⟩
  · rcases hp2 with ⟨h3, h4⟩ | ⟨h3, h4⟩
    · exact ⟨lo j hj hjz h2, hi' j2 hj2 hjz2 h4⟩
    · omega

end

/-- What the method answers. -/
noncomputable def lhRes (g : Game) (a : Int) : List Frac × Int × Int := open Classical in
  if IsGm g then (if 0 ≤ a ∧ a < (nG g : Nat) then (match (List.range 200).find? (fun m => decide (lhEnd g a.toNat m)) with
    | some m => (if (mixV g.1.length (zOf (nG g) (lhIt g a.toNat (m + 1)))).2 = 0 then ((mixV g.1.length (zOf (nG g) (lhIt g a.toNat (m + 1)))).1, ((m + 1 : Nat) : Int), 0) else ([], 0, (mixV g.1.length (zOf (nG g) (lhIt g a.toNat (m + 1)))).2))
    | none => ([], 0, 3)) else ([], 0, 2)) else ([], 0, 1)

theorem lhRes_some {g : Game} {a m : Nat} (hg : IsGm g) (ha : a < nG g) (hm : m < 200) (hno : ∀ j, j < m → ¬ lhEnd g a j) (hM : lhEnd g a m) :
    lhRes g a = if (mixV g.1.length (zOf (nG g) (lhIt g a (m + 1)))).2 = 0 then ((mixV g.1.length (zOf (nG g) (lhIt g a (m + 1)))).1, ((m + 1 : Nat) : Int), 0) else ([], 0, (mixV g.1.length (zOf (nG g) (lhIt g a (m + 1)))).2) := by
  have e : (List.range 200).find? (fun m => @decide (lhEnd g ((a : Nat) : Int).toNat m) (Classical.propDecidable _)) = some m := List.find?_range_eq_some.2 ⟨@decide_eq_true _ (Classical.propDecidable _) hM, List.mem_range.2 hm, fun j hj => by
    rw [@decide_eq_false (lhEnd g ((a : Nat) : Int).toNat j) (Classical.propDecidable _) (hno j hj)]
    rfl⟩
  unfold lhRes
  rw [if_pos hg, if_pos ⟨by omega, by omega⟩, e]
  rfl

theorem lhRes_none {g : Game} {a : Nat} (hg : IsGm g) (ha : a < nG g) (hno : ∀ j, j < 200 → ¬ lhEnd g a j) : lhRes g a = ([], 0, 3) := by
  have e : (List.range 200).find? (fun m => @decide (lhEnd g ((a : Nat) : Int).toNat m) (Classical.propDecidable _)) = none := List.find?_range_eq_none.2 fun j hj => by
    rw [@decide_eq_false (lhEnd g ((a : Nat) : Int).toNat j) (Classical.propDecidable _) (hno j hj)]
    rfl
  unfold lhRes
  rw [if_pos hg, if_pos ⟨by omega, by omega⟩, e]

end Go.Proofs.Ytbcfknboheghkaa
