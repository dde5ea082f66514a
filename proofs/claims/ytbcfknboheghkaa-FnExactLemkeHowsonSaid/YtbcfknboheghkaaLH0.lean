/- The method of Lemke and Howson as plain functions on tables, and what it keeps. No condition. -/
import Derived.Test.YtbcfknboheghkaaGM1
import Derived.Test.YtbcfknboheghkaaMIX
import Derived.Test.YtbcfknboheghkaaZabPath
namespace Go.Proofs.Ytbcfknboheghkaa
open Go.Ab

/-- The system of a game: the unit, less its matrix, and the right side. -/
def lhE (g : Game) : Mat := fun i c => if c < nG g then (if i = c then 1 else 0) else if c < 2 * nG g then -(gmE g i (c - nG g)) else 1

abbrev lhW (n : Nat) : Nat := 2 * n

def keyLess (n : Nat) (rows : List (List Int)) (v i k : Nat) : Prop := lexLt (n + 1) (fun j => mAt rows k v * keyF (lhW n) (mAt rows) i j) fun j => mAt rows i v * keyF (lhW n) (mAt rows) k j

noncomputable def leastTo (n : Nat) (rows : List (List Int)) (v : Nat) : Nat → Int
  | 0 => -1
  | i + 1 => open Classical in if 0 < mAt rows i v ∧ (leastTo n rows v i < 0 ∨ keyLess n rows v i (leastTo n rows v i).toNat) then (i : Int) else leastTo n rows v i

theorem leastTo_lt (n : Nat) (rows : List (List Int)) (v : Nat) : ∀ i, -1 ≤ leastTo n rows v i ∧ leastTo n rows v i < (i : Nat)
  | 0 => by unfold leastTo; omega
  | i + 1 => by
    have := leastTo_lt n rows v i
    unfold leastTo
    split <;> omega

theorem keyLess_trans {n : Nat} {rows : List (List Int)} {v i j k : Nat} (hi : 0 < mAt rows i v) (hj : 0 < mAt rows j v) (hk : 0 < mAt rows k v) (h1 : keyLess n rows v i j) (h2 : keyLess n rows v j k) : keyLess n rows v i k := by
  have a1 := h1.mul hk
  have a2 := h2.mul hi
  refine lexLt.div hj (lexLt.trans (a1.congr (fun x _ => ?_) fun x _ => rfl) (a2.congr (fun x _ => ?_) fun x _ => ?_))
  · ac_rfl
  · ac_rfl
  · ac_rfl

theorem leastTo_ok {n : Nat} {rows : List (List Int)} {v : Nat} : ∀ i, (leastTo n rows v i = -1 ∧ ∀ k, k < i → ¬ 0 < mAt rows k v) ∨ ∃ b : Nat, b < i ∧ leastTo n rows v i = b ∧ 0 < mAt rows b v ∧ ∀ k, k < i → 0 < mAt rows k v → ¬ keyLess n rows v k b
  | 0 => .inl ⟨rfl, fun k hk => by omega⟩
  | i + 1 => by
    have ih := leastTo_ok (n := n) (rows := rows) (v := v) i
    unfold leastTo
    by_cases hp : 0 < mAt rows i v
    · rcases ih with ⟨e, h⟩ | ⟨b, hb, e, hbp, h⟩
      · rw [if_pos ⟨hp, .inl (by omega)⟩]
        refine .inr ⟨i, by omega, rfl, hp, fun k hk hkp hl => ?_⟩
        by_cases c : k = i
        · subst c; exact hl.irr
        · exact h k (by omega) hkp
      · rw [e]
        have et : ((b : Nat) : Int).toNat = b := by omega
        rw [et]
        by_cases hl : keyLess n rows v i b
        · rw [if_pos ⟨hp, .inr hl⟩]
          refine .inr ⟨i, by omega, rfl, hp, fun k hk hkp hkl => ?_⟩
          by_cases c : k = i
          · subst c; exact hkl.irr
          · exact h k (by omega) hkp (keyLess_trans hkp hp hbp hkl hl)
        · rw [if_neg fun q => q.2.elim (fun q => by omega) hl]
          refine .inr ⟨b, by omega, rfl, hbp, fun k hk hkp => ?_⟩
          by_cases c : k = i
          · subst c; exact hl
          · exact h k (by omega) hkp
    · rw [if_neg fun q => hp q.1]
      rcases ih with ⟨e, h⟩ | ⟨b, hb, e, hbp, h⟩
      · refine .inl ⟨e, fun k hk => ?_⟩
        by_cases c : k = i
        · subst c; exact hp
        · exact h k (by omega)
      · refine .inr ⟨b, by omega, e, hbp, fun k hk hkp => ?_⟩
        by_cases c : k = i
        · subst c; exact absurd hkp hp
        · exact h k (by omega) hkp

/-! ### Steps -/

def pivRow (row rr : List Int) (p f d : Int) : List Int := (List.range row.length).map fun c => (row.getD c 0 * p - f * rr.getD c 0).tdiv d
def pivRows (rows : List (List Int)) (r v : Nat) (d : Int) : List (List Int) := (List.range rows.length).map fun i => if i = r then rows.getD r [] else pivRow (rows.getD i []) (rows.getD r []) (mAt rows r v) (mAt rows i v) d

structure LhS where
  bas : List Int
  rows : List (List Int)
  den : Int
  v : Nat

noncomputable def lhRow (n : Nat) (s : LhS) : Nat := (leastTo n s.rows s.v n).toNat
noncomputable def lhLeft (n : Nat) (s : LhS) : Nat := (s.bas.getD (lhRow n s) 0).toNat
noncomputable def lhStep (n : Nat) (s : LhS) : LhS := ⟨s.bas.set (lhRow n s) (s.v : Nat), pivRows s.rows (lhRow n s) s.v s.den, mAt s.rows (lhRow n s) s.v, partN n (lhLeft n s)⟩

def lhRows0 (g : Game) : List (List Int) := (List.range (nG g)).map fun i => (List.range (2 * nG g + 1)).map fun c => lhE g i c
def lhS0 (g : Game) (a : Nat) : LhS := ⟨(List.range (nG g)).map fun i => ((i : Nat) : Int), lhRows0 g, 1, nG g + a⟩
noncomputable def lhIt (g : Game) (a : Nat) : Nat → LhS
  | 0 => lhS0 g a
  | m + 1 => lhStep (nG g) (lhIt g a m)

def basF (s : LhS) : Nat → Nat := fun k => (s.bas.getD k 0).toNat

structure LhI (g : Game) (s : LhS) : Prop where
  rl : s.rows.length = nG g
  rw : ∀ r ∈ s.rows, r.length = 2 * nG g + 1
  bl : s.bas.length = nG g
  bb : ∀ b ∈ s.bas, 0 ≤ b ∧ b < 2 * nG g
  vl : s.v < 2 * nG g
  tab : Tabl (nG g) (2 * nG g + 1) (lhE g) (basF s) (mAt s.rows) s.den
  pos : ∀ k, k < nG g → lexPos (nG g + 1) (keyF (lhW (nG g)) (mAt s.rows) k)

section
variable {g : Game}

theorem det_one (n : Nat) : det n (fun i j => if i = j then 1 else 0) = 1 := by
  have := det_unit (n := 0) (q := n) (A := fun i j => if i = j then 1 else 0) fun i j _ _ => rfl
  exact this

theorem lhE_unit {i j : Nat} (_ : i < nG g) (hj : j < nG g) : lhE g i j = if i = j then 1 else 0 := by
  unfold lhE
  rw [if_pos hj]

theorem gmE_le (hg : IsGm g) (r c : Nat) : gmE g r c ≤ 0 := by
  have q : ∀ (m : List (List Int)) (_ : ∀ r ∈ m, r.length = lw g ∧ ∀ x ∈ r, 1 ≤ x ∧ x ≤ 20) (a b : Nat), 0 ≤ mAt m a b := fun m hm a b => by
    simp only [mAt, List.getD_eq_getElem?_getD]
    cases e1 : m[a]? with
    | none => simp
    | some row =>
      simp only [Option.getD_some]
      cases e2 : row[b]? with
      | none => simp
      | some x =>
        have := (hm row (List.mem_of_getElem? e1)).2 x (List.mem_of_getElem? e2)
        simp only [Option.getD_some]
        omega
  unfold gmE
  split
  · have := q g.1 hg.a r (c - g.1.length); omega
  · split
    · have := q g.2 hg.b c (r - g.1.length); omega
    · omega

theorem lhE_low (hg : IsGm g) (i c : Nat) : 0 ≤ lhE g i c := by
  unfold lhE
  split
  · split <;> omega
  · split
    · have := gmE_le hg i (c - nG g); omega
    · omega

theorem lhE_abs (hg : IsGm g) (i c : Nat) : (lhE g i c).natAbs ≤ 20 := by
  unfold lhE
  split
  · split <;> decide
  · split
    · have := gmE_abs hg i (c - nG g); omega
    · decide

theorem mAt_in {m : List (List Int)} {k l : Nat} (h : m.length = k) (hr : ∀ r ∈ m, r.length = l ∧ ∀ x ∈ r, 1 ≤ x ∧ x ≤ 20) {a b : Nat} (ha : a < k) (hb : b < l) : 1 ≤ mAt m a b := by
  have h1 : a < m.length := by omega
  obtain ⟨h2, h3⟩ := hr _ (List.getElem_mem h1)
  unfold mAt
  rw [show m.getD a [] = m[a] by simp [List.getD_eq_getElem?_getD, List.getElem?_eq_getElem h1], atD (by omega)]
  exact (h3 _ (List.getElem_mem _)).1

theorem lhE_some (hg : IsGm g) {v : Nat} (hv : v < 2 * nG g) : ∃ i, i < nG g ∧ lhE g i v ≠ 0 := by
  have k1 := hg.k1; have l1 := hg.l1
  have hn : nG g = g.1.length + lw g := rfl
  by_cases c : v < nG g
  · exact ⟨v, c, by rw [lhE_unit c c, if_pos rfl]; decide⟩
  · by_cases c2 : v - nG g < g.1.length
    · refine ⟨g.1.length, by omega, ?_⟩
      unfold lhE gmE
      rw [if_neg c, if_pos hv, if_neg (by omega), if_pos ⟨Nat.le_refl _, c2⟩]
      have := mAt_in hg.bl hg.b (a := v - nG g) (b := g.1.length - g.1.length) (by omega) (by omega)
      omega
    · refine ⟨0, by omega, ?_⟩
      unfold lhE gmE
      rw [if_neg c, if_pos hv, if_pos ⟨by omega, by omega⟩]
      have := mAt_in rfl hg.a (a := 0) (b := v - nG g - g.1.length) (by omega) (by omega)
      omega

theorem LhI.least (hg : IsGm g) {s : LhS} (h : LhI g s) : Least (nG g) (lhW (nG g)) (mAt s.rows) s.v (lhRow (nG g) s) ∧ leastTo (nG g) s.rows s.v (nG g) = ((lhRow (nG g) s : Nat) : Int) := by
  obtain ⟨k, hk, hkp⟩ := h.tab.some (fun i c _ _ => lhE_low hg i c) (by have := h.vl; omega) (lhE_some hg h.vl)
  rcases leastTo_ok (n := nG g) (rows := s.rows) (v := s.v) (nG g) with ⟨_, h2⟩ | ⟨b, hb, e, hbp, h2⟩
  · exact absurd hkp (h2 k hk)
  · have er : lhRow (nG g) s = b := by unfold lhRow; rw [e]; omega
    rw [er]
    refine ⟨⟨hb, hbp, fun k hk hkb hkp => ?_⟩, e⟩
    rcases lexLt.tot (nG g + 1) (fun i => mAt s.rows k s.v * keyF (lhW (nG g)) (mAt s.rows) b i) (fun i => mAt s.rows b s.v * keyF (lhW (nG g)) (mAt s.rows) k i) with q | q | q
    · exact q
    · exact absurd q (h2 k hk hkp)
    · exact (h.tab.notie (W := lhW (nG g)) (by unfold lhW; omega) (fun i j hi hj => lhE_unit hi hj) hk hb hkb (by omega) q).elim

theorem mAt_piv {rows : List (List Int)} {r v : Nat} {d : Int} {i c : Nat} (hi : i < rows.length) (hc : c < (rows.getD i []).length) : mAt (pivRows rows r v d) i c = if i = r then mAt rows r c else (mAt rows i c * mAt rows r v - mAt rows i v * mAt rows r c).tdiv d := by
  unfold mAt pivRows
  rw [show ((List.range rows.length).map fun i => if i = r then rows.getD r [] else pivRow (rows.getD i []) (rows.getD r []) (mAt rows r v) (mAt rows i v) d).getD i [] = if i = r then rows.getD r [] else pivRow (rows.getD i []) (rows.getD r []) (mAt rows r v) (mAt rows i v) d by simp [List.getD_eq_getElem?_getD, hi]]
  split
  · rfl
  · unfold pivRow
    simp only [List.getD_eq_getElem?_getD] at hc ⊢
    simp [hc, mAt, List.getD_eq_getElem?_getD]

theorem LhI.rowlen {s : LhS} (h : LhI g s) {i : Nat} (hi : i < nG g) : (s.rows.getD i []).length = 2 * nG g + 1 := by
  have : i < s.rows.length := by rw [h.rl]; exact hi
  rw [show s.rows.getD i [] = s.rows[i] by simp [List.getD_eq_getElem?_getD, List.getElem?_eq_getElem this]]
  exact h.rw _ (List.getElem_mem this)

theorem LhI.bas {s : LhS} (h : LhI g s) {k : Nat} (hk : k < nG g) : s.bas.getD k 0 = ((basF s k : Nat) : Int) ∧ basF s k < 2 * nG g := by
  have : k < s.bas.length := by rw [h.bl]; exact hk
  have e : s.bas.getD k 0 = s.bas[k] := by simp [List.getD_eq_getElem?_getD, List.getElem?_eq_getElem this]
  have b := h.bb _ (List.getElem_mem this)
  unfold basF
  rw [e]
  omega

/-- A step keeps all that. -/
theorem LhI.next (hg : IsGm g) {s : LhS} (h : LhI g s) : LhI g (lhStep (nG g) s) ∧ Least (nG g) (lhW (nG g)) (mAt (lhStep (nG g) s).rows) (lhLeft (nG g) s) (lhRow (nG g) s) := by
  have hl := (h.least hg).1
  have hr := hl.lt
  have hp := hl.pos
  have hd := h.tab.pos
  have hv : s.v < 2 * nG g + 1 := by have := h.vl; omega
  obtain ⟨t1, t2⟩ := h.tab.step hr hv hp
  have m : ∀ i c, i < nG g → c < 2 * nG g + 1 → mAt (pivRows s.rows (lhRow (nG g) s) s.v s.den) i c = if i = lhRow (nG g) s then mAt s.rows (lhRow (nG g) s) c else (mAt s.rows i c * mAt s.rows (lhRow (nG g) s) s.v - mAt s.rows i s.v * mAt s.rows (lhRow (nG g) s) c).tdiv s.den := fun i c hi hc =>
    mAt_piv (by rw [h.rl]; exact hi) (by rw [h.rowlen hi]; exact hc)
  have m1 : ∀ c, c < 2 * nG g + 1 → mAt (pivRows s.rows (lhRow (nG g) s) s.v s.den) (lhRow (nG g) s) c = mAt s.rows (lhRow (nG g) s) c := fun c hc => by rw [m _ c hr hc, if_pos rfl]
  have m2 : ∀ k c, k < nG g → c < 2 * nG g + 1 → k ≠ lhRow (nG g) s → s.den * mAt (pivRows s.rows (lhRow (nG g) s) s.v s.den) k c = mAt s.rows k c * mAt s.rows (lhRow (nG g) s) s.v - mAt s.rows k s.v * mAt s.rows (lhRow (nG g) s) c := fun k c hk hc hkr => by
    rw [m k c hk hc, if_neg hkr, Int.mul_tdiv_cancel' (t1 k c hk hc hkr)]
  have tab := t2 _ m1 m2
  have lex := h.tab.lexstep (W := lhW (nG g)) hv hl h.pos (by unfold lhW; omega) m1 m2
  have eb : ∀ k, k < nG g → basF (lhStep (nG g) s) k = basP (basF s) (lhRow (nG g) s) s.v k := fun k hk => by
    show ((s.bas.set (lhRow (nG g) s) (s.v : Nat)).getD k 0).toNat = _
    unfold basP basF
    by_cases e : k = lhRow (nG g) s
    · subst e
      rw [if_pos rfl]
      have : lhRow (nG g) s < s.bas.length := by rw [h.bl]; exact hr
      simp [List.getD_eq_getElem?_getD, this]
    · rw [if_neg e]
      simp [List.getD_eq_getElem?_getD, List.getElem?_set_ne (fun q => e q.symm)]
  have ed : ∀ (A : Mat), det (nG g) (BM A (basF (lhStep (nG g) s))) = det (nG g) (BM A (basP (basF s) (lhRow (nG g) s) s.v)) := fun A => det_congr fun i k hi hk => by
    unfold BM
    rw [eb k hk]
  have hv2 := h.vl
  refine ⟨⟨?_, ?_, ?_, ?_, ?_, ⟨tab.pos, ?_, fun i c hi hc => ?_, fun k hk => ?_⟩, lex.1⟩, ?_⟩
  · show (pivRows s.rows _ s.v s.den).length = _
    simp [pivRows, h.rl]
  · intro row hrow
    obtain ⟨i, hi, rfl⟩ := List.mem_map.1 (show row ∈ (List.range s.rows.length).map _ from hrow)
    have hi : i < nG g := by rw [← h.rl]; simpa using hi
    split
    · exact h.rowlen hr
    · simp only [pivRow, List.length_map, List.length_range]
      exact h.rowlen hi
  · show (s.bas.set _ _).length = _
    rw [List.length_set, h.bl]
  · intro b hb
    rcases List.mem_or_eq_of_mem_set (show b ∈ s.bas.set (lhRow (nG g) s) (s.v : Nat) from hb) with q | q
    · exact h.bb b q
    · rw [q]; omega
  · exact partN_lt (h.bas hr).2
  · rw [ed]
    exact tab.dt
  · show Go.Ab.sumTo (nG g) (fun k => lhE g i (basF (lhStep (nG g) s) k) * mAt (pivRows s.rows (lhRow (nG g) s) s.v s.den) k c) = mAt s.rows (lhRow (nG g) s) s.v * lhE g i c
    rw [← tab.eq i c hi hc]
    exact Go.Ab.sumTo_congr fun k hk => by rw [eb k hk]
  · rw [eb k hk]
    exact tab.lt k hk
  · exact lex.2

theorem LhI.zero (hg : IsGm g) {a : Nat} (ha : a < nG g) : LhI g (lhS0 g a) := by
  have rat : ∀ i c, i < nG g → c < 2 * nG g + 1 → mAt (lhRows0 g) i c = lhE g i c := fun i c hi hc => by
    unfold mAt lhRows0
    simp [List.getD_eq_getElem?_getD, hi, hc]
  have bat : ∀ k, k < nG g → basF (lhS0 g a) k = k := fun k hk => by
    show (((List.range (nG g)).map fun i => ((i : Nat) : Int)).getD k 0).toNat = k
    simp [List.getD_eq_getElem?_getD, hk]
  refine ⟨by simp [lhS0, lhRows0], fun r hr => ?_, by simp [lhS0], fun b hb => ?_, by show nG g + a < 2 * nG g; omega, ⟨by show (0 : Int) < 1; decide, .inl ?_, fun i c hi hc => ?_, fun k hk => by rw [bat k hk]; omega⟩, fun k hk => ?_⟩
  · obtain ⟨i, _, rfl⟩ := List.mem_map.1 (show r ∈ (List.range (nG g)).map _ from hr)
    simp
  · obtain ⟨i, hi, rfl⟩ := List.mem_map.1 (show b ∈ (List.range (nG g)).map _ from hb)
    have : i < nG g := by simpa using hi
    omega
  · show det (nG g) (BM (lhE g) (basF (lhS0 g a))) = 1
    rw [show det (nG g) (BM (lhE g) (basF (lhS0 g a))) = det (nG g) (fun i j => if i = j then 1 else 0) from det_congr fun i k hi hk => by
      unfold BM
      rw [bat k hk, lhE_unit hi hk]]
    exact det_one _
  · show Go.Ab.sumTo (nG g) (fun k => lhE g i (basF (lhS0 g a) k) * mAt (lhRows0 g) k c) = 1 * lhE g i c
    have : Go.Ab.sumTo (nG g) (fun k => lhE g i (basF (lhS0 g a) k) * mAt (lhRows0 g) k c) = Go.Ab.sumTo (nG g) fun k => if k = i then lhE g i c else 0 := Go.Ab.sumTo_congr fun k hk => by
      rw [bat k hk, lhE_unit hi hk, rat k c hk hc]
      by_cases e : k = i
      · subst e; rw [if_pos rfl, if_pos rfl, Int.one_mul]
      · rw [if_neg fun q => e q.symm, if_neg e, Int.zero_mul]
    rw [this, Go.Ab.sumTo_one hi fun k _ hne => if_neg hne, if_pos rfl, Int.one_mul]
  · refine ⟨0, by omega, ?_, fun i hi => by omega⟩
    show 0 < keyF (lhW (nG g)) (mAt (lhRows0 g)) k 0
    unfold keyF lhW
    rw [if_pos rfl, rat k _ hk (by omega)]
    unfold lhE
    rw [if_neg (by omega), if_neg (by omega)]
    decide

theorem lh_inv (hg : IsGm g) {a : Nat} (ha : a < nG g) : ∀ m, LhI g (lhIt g a m)
  | 0 => LhI.zero hg ha
  | m + 1 => ((lh_inv hg ha m).next hg).1

end
end Go.Proofs.Ytbcfknboheghkaa
