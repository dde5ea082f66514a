/- The method of Lemke and Howson as plain functions on tables, and what it keeps. No condition. -/
import Derived.Test.YtbcfknboheghkaaGreatGGM
import Derived.Test.YtbcfknboheghkaaGreatGLL
import Derived.Test.YtbcfknboheghkaaGreatGQQ
import Derived.Test.YtbcfknboheghkaaGreatGEQ
namespace Go.Proofs.YtbcfknboheghkaaGreat
open Go.Ab

/-- The system of a game: the unit, less its matrix, and the right side. -/
def lhE (g : Game) : Mat := fun i c => if c < nG g then (if i = c then 1 else 0) else if c < 2 * nG g then -(gmE g i (c - nG g)) else 1

abbrev lhW (n : Nat) : Nat := 2 * n

def keyLess (n : Nat) (rows : List (List Int)) (v i k : Nat) : Prop := lexLt (n + 1) (fun j => mAt rows k v * keyF (lhW n) (mAt rows) i j) fun j => mAt rows i v * keyF (lhW n) (mAt rows) k j

noncomputable def leastTo (n : Nat) (rows : List (List Int)) (v : Nat) : Nat → Int
  | 0 => -1
  | i + 1 => open Classical in if 0 < mAt rows i v ∧ (leastTo n rows v i < 0 ∨ keyLess n rows v i (leastTo n rows v i).toNat) then (i : Int) else leastTo n rows v i

theorem keyLess_trans {n : Nat} {rows : List (List Int)} {v i j k : Nat} (hi : 0 < mAt rows i v) (hj : 0 < mAt rows j v) (hk : 0 < mAt rows k v) (h1 : keyLess n rows v i j) (h2 : keyLess n rows v j k) : keyLess n rows v i k := by
  have a1 := h1.mul hk
  have a2 := h2.mul hi
  refine lexLt.div hj (lexLt.trans (a1.congr (fun x _ => ?_) fun x _ => rfl) (a2.congr (fun x _ => ?_) fun x _ => ?_))
  · ac_rfl
  · ac_rfl
  · ac_rfl

theorem leastTo_ok {n : Nat} {rows : List (List Int)} {v : Nat} : ∀ i, (leastTo n rows v i = -1 ∧ ∀ k, k < i → ¬ 0 < mAt rows k v) ∨ ∃ b : Nat, b < i ∧ leastTo n rows v i = b ∧ 0 < mAt rows b v ∧ ∀ k, k < i → 0 < mAt rows k v → ¬ keyLess n rows v k b
  | 0 => .inl ⟨rfl, fun k hk => by omega⟩
  | i + 1 => by
    have ih := leastTo_ok (n := n) (rows := rows) (v := v) i
    unfold leastTo
    by_cases hp : 0 < mAt rows i v
    · rcases ih with ⟨e, h⟩ | ⟨b, hb, e, hbp, h⟩
      · rw [if_pos ⟨hp, .inl (by omega)⟩]
        refine .inr ⟨i, by omega, rfl, hp, fun k hk hkp hl => ?_⟩
        by_cases c : k = i
        · subst c; exact hl.irr
        · exact h k (by omega) hkp
      · rw [e]
        have et : ((b : Nat) : Int).toNat = b := by omega
        rw [et]
        by_cases hl : keyLess n rows v i b
        · rw [if_pos ⟨hp, .inr hl⟩]
          refine .inr ⟨i, by omega, rfl, hp, fun k hk hkp hkl => ?_⟩
          by_cases c : k = i
          · subst c; exact hkl.irr
          · exact h k (by omega) hkp (keyLess_trans hkp hp hbp hkl hl)
        · rw [if_neg fun q => q.2.elim (fun q => by omega) hl]
          refine .inr ⟨b, by omega, rfl, hbp, fun k hk hkp => ?_⟩
          by_cases c : k = i
          · subst c; exact hl
          · exact h k (by omega) hkp
    · rw [if_neg fun q => hp q.1]
      rcases ih with ⟨e, h⟩ | ⟨b, hb, e, hbp, h⟩
      · refine .inl ⟨e, fun k hk => ?_⟩
        by_cases c : k = i
        · subst c; exact hp
        · exact h k (by omega)
      · refine .inr ⟨b, by omega, e, hbp, fun k hk hkp => ?_⟩
        by_cases c : k = i
        · subst c; exact absurd hkp hp
        · exact h k (by omega) hkp

/-! ### Steps -/

def pivRow (row rr : List Int) (p f d : Int) : List Int := (List.range row.length).map fun c => (row.getD c 0 * p - f * rr.getD c 0).tdiv d
def pivRows (rows : List (List Int)) (r v : Nat) (d : Int) : List (List Int) := (List.range rows.length).map fun i => if i = r then rows.getD r [] else pivRow (rows.getD i []) (rows.getD r []) (mAt rows r v) (mAt rows i v) d

structure LhS where
  bas : List Int
  rows : List (List Int)
  den : Int
  v : Nat

noncomputable def lhRow (n : Nat) (s : LhS) : Nat := (leastTo n s.rows s.v n).toNat
noncomputable def lhLeft (n : Nat) (s : LhS) : Nat := (s.bas.getD (lhRow n s) 0).toNat
noncomputable def lhStep (n : Nat) (s : LhS) : LhS := ⟨s.bas.set (lhRow n s) (s.v : Nat), pivRows s.rows (lhRow n s) s.v s.den, mAt s.rows (lhRow n s) s.v, partN n (lhLeft n s)⟩

def lhRows0 (g : Game) : List (List Int) := (List.range (nG g)).map fun i => (List.range (2 * nG g + 1)).map fun c => lhE g i c
def lhS0 (g : Game) (a : Nat) : LhS := ⟨(List.range (nG g)).map fun i => ((i : Nat) : Int), lhRows0 g, 1, nG g + a⟩
noncomputable def lhIt (g : Game) (a : Nat) : Nat → LhS
  | 0 => lhS0 g a
  | m + 1 => lhStep (nG g) (lhIt g a m)

def basF (s : LhS) : Nat → Nat := fun k => (s.bas.getD k 0).toNat

structure LhI (g : Game) (s : LhS) : Prop where
  rl : s.rows.length = nG g
  rw : ∀ r ∈ s.rows, r.length = 2 * nG g + 1
  bl : s.bas.length = nG g
  bb : ∀ b ∈ s.bas, 0 ≤ b ∧ b < 2 * nG g
  vl : s.v < 2 * nG g
  tab : Tabl (nG g) (2 * nG g + 1) (lhE g) (basF s) (mAt s.rows) s.den
  pos : ∀ k, k < nG g → lexPos (nG g + 1) (keyF (lhW (nG g)) (mAt s.rows) k)

section
variable {g : Game}

theorem det_one (n : Nat) : det n (fun i j => if i = j then 1 else 0) = 1 := by
  have := det_unit (n := 0) (q := n) (A := fun i j => if i = j then 1 else 0) fun i j _ _ => rfl
  exact this

theorem lhE_unit {i j : Nat} (_ : i < nG g) (hj : j < nG g) : lhE g i j = if i = j then 1 else 0 := by
  unfold lhE
  rw [if_pos hj]

theorem gmE_le (hg : IsGm g) (r c : Nat) : gmE g r c ≤ 0 := by
  have q : ∀ (m : List (List Int)) (_ : ∀ r ∈ m, r.length = lw g ∧ ∀ x ∈ r, 1 ≤ x ∧ x ≤ 20) (a b : Nat), 0 ≤ mAt m a b := fun m hm a b => by
    simp only [mAt, List.getD_eq_getElem?_getD]
    cases e1 : m[a]? with
    | none => simp
    | some row =>
      simp only [Option.getD_some]
      cases e2 : row[b]? with
      | none => simp
      | some x =>
        have := (hm row (List.mem_of_getElem? e1)).2 x (List.mem_of_getElem? e2)
        simp only [Option.getD_some]
        omega
  unfold gmE
  split
  · have := q g.1 hg.a r (c - g.1.length); omega
  · split
    · have := q g.2 hg.b c (r - g.1.length); omega
    · omega

theorem lhE_low (hg : IsGm g) (i c : Nat) : 0 ≤ lhE g i c := by
  unfold lhE
  split
  · split <;> omega
  · split
    · have := gmE_le hg i (c - nG g); omega
    · omega

theorem lhE_abs (hg : IsGm g) (i c : Nat) : (lhE g i c).natAbs ≤ 20 := by
  unfold lhE
  split
  · split <;> decide
  · split
    · have := gmE_abs hg i (c - nG g); omega
    · decide

theorem mAt_in {m : List (List Int)} {k l : Nat} (h : m.length = k) (hr : ∀ r ∈ m, r.length = l ∧ ∀ x ∈ r, 1 ≤ x ∧ x ≤ 20) {a b : Nat} (ha : a < k) (hb : b < l) : 1 ≤ mAt m a b := by
  have h1 : a < m.length := by omega
  obtain ⟨h2, h3⟩ := hr _ (List.getElem_mem h1)
  unfold mAt
  rw [show m.getD a [] = m[a] by simp [List.getD_eq_getElem?_getD, List.getElem?_eq_getElem h1], atD (by omega)]
  exact (h3 _ (List.getElem_mem _)).1

theorem lhE_some (hg : IsGm g) {v : Nat} (hv : v < 2 * nG g) : ∃ i, i < nG g ∧ lhE g i v ≠ 0 := by
  have k1 := hg.k1; have l1 := hg.l1
  have hn : nG g = g.1.length + lw g := rfl
  by_cases c : v < nG g
  · exact ⟨v, c, by rw [lhE_unit c c, if_pos rfl]; decide⟩
  · by_cases c2 : v - nG g < g.1.length
    · refine ⟨g.1.length, by omega, ?_⟩
      unfold lhE gmE
      rw [if_neg c, if_pos hv, if_neg (by omega), if_pos ⟨Nat.le_refl _, c2⟩]
      have := mAt_in hg.bl hg.b (a := v - nG g) (b := g.1.length - g.1.length) (by omega) (by omega)
      omega
    · refine ⟨0, by omega, ?_⟩
      unfold lhE gmE
      rw [if_neg c, if_pos hv, if_pos ⟨by omega, by omega⟩]
      have := mAt_in rfl hg.a (a := 0) (b := v - nG g - g.1.length) (by omega) (by omega)
      omega

theorem LhI.least (hg : IsGm g) {s : LhS} (h : LhI g s) : Least (nG g) (lhW (nG g)) (mAt s.rows) s.v (lhRow (nG g) s) ∧ leastTo (nG g) s.rows s.v (nG g) = ((lhRow (nG g) s : Nat) : Int) := by
  obtain ⟨k, hk, hkp⟩ := h.tab.some (fun i c _ _ => lhE_low hg i c) (by have := h.vl; omega) (lhE_some hg h.vl)
  rcases leastTo_ok (n := nG g) (rows := s.rows) (v := s.v) (nG g) with ⟨_, h2⟩ | ⟨b, hb, e, hbp, h2⟩
  · exact absurd hkp (h2 k hk)
  · have er : lhRow (nG g) s = b := by unfold lhRow; rw [e]; omega
    rw [er]
    refine ⟨⟨hb, hbp, fun k hk hkb hkp => ?_⟩, e⟩
    rcases lexLt.tot (nG g + 1) (fun i => mAt s.rows k s.v * keyF (lhW (nG g)) (mAt s.rows) b i) (fun i => mAt s.rows b s.v * keyF (lhW (nG g)) (mAt s.rows) k i) with q | q | q
    · exact q
    · exact absurd q (h2 k hk hkp)
    · exact (h.tab.notie (W := lhW (nG g)) (by unfold lhW; omega) (fun i j hi hj => lhE_unit hi hj) hk hb hkb (by omega) q).elim

theorem mAt_piv {rows : List (List Int)} {r v : Nat} {d : Int} {i c : Nat} (hi : i < rows.length) (hc : c < (rows.getD i []).length) : mAt (pivRows rows r v d) i c = if i = r then mAt rows r c else (mAt rows i c * mAt rows r v - mAt rows i v * mAt rows r c).tdiv d := by
  unfold mAt pivRows
  rw [show ((List.range rows.length).map fun i => if i = r then rows.getD r [] else pivRow (rows.getD i []) (rows.getD r []) (mAt rows r v) (mAt rows i v) d).getD i [] = if i = r then rows.getD r [] else pivRow (rows.getD i []) (rows.getD r []) (mAt rows r v) (mAt rows i v) d by simp [List.getD_eq_getElem?_getD, hi]]
  split
  · rfl
  · unfold pivRow
    simp only [List.getD_eq_getElem?_getD] at hc ⊢
    simp [hc, mAt, List.getD_eq_getElem?_getD]

theorem LhI.rowlen {s : LhS} (h : LhI g s) {i : Nat} (hi : i < nG g) : (s.rows.getD i []).length = 2 * nG g + 1 := by
  have : i < s.rows.length := by rw [h.rl]; exact hi
  rw [show s.rows.getD i [] = s.rows[i] by simp [List.getD_eq_getElem?_getD, List.getElem?_eq_getElem this]]
  exact h.rw _ (List.getElem_mem this)

theorem LhI.bas {s : LhS} (h : LhI g s) {k : Nat} (hk : k < nG g) : s.bas.getD k 0 = ((basF s k : Nat) : Int) ∧ basF s k < 2 * nG g := by
  have : k < s.bas.length := by rw [h.bl]; exact hk
  have e : s.bas.getD k 0 = s.bas[k] := by simp [List.getD_eq_getElem?_getD, List.getElem?_eq_getElem this]
  have b := h.bb _ (List.getElem_mem this)
  unfold basF
  rw [e]
  omega

/-- A step keeps all that. -/
theorem LhI.next (hg : IsGm g) {s : LhS} (h : LhI g s) : LhI g (lhStep (nG g) s) ∧ Least (nG g) (lhW (nG g)) (mAt (lhStep (nG g) s).rows) (lhLeft (nG g) s) (lhRow (nG g) s) := by
  have hl := (h.least hg).1
  have hr := hl.lt
  have hp := hl.pos
  have hd := h.tab.pos
  have hv : s.v < 2 * nG g + 1 := by have := h.vl; omega
  obtain ⟨t1, t2⟩ := h.tab.step hr hv hp
  have m : ∀ i c, i < nG g → c < 2 * nG g + 1 → mAt (pivRows s.rows (lhRow (nG g) s) s.v s.den) i c = if i = lhRow (nG g) s then mAt s.rows (lhRow (nG g) s) c else (mAt s.rows i c * mAt s.rows (lhRow (nG g) s) s.v - mAt s.rows i s.v * mAt s.rows (lhRow (nG g) s) c).tdiv s.den := fun i c hi hc =>
    mAt_piv (by rw [h.rl]; exact hi) (by rw [h.rowlen hi]; exact hc)
  have m1 : ∀ c, c < 2 * nG g + 1 → mAt (pivRows s.rows (lhRow (nG g) s) s.v s.den) (lhRow (nG g) s) c = mAt s.rows (lhRow (nG g) s) c := fun c hc => by rw [m _ c hr hc, if_pos rfl]
  have m2 : ∀ k c, k < nG g → c < 2 * nG g + 1 → k ≠ lhRow (nG g) s → s.den * mAt (pivRows s.rows (lhRow (nG g) s) s.v s.den) k c = mAt s.rows k c * mAt s.rows (lhRow (nG g) s) s.v - mAt s.rows k s.v * mAt s.rows (lhRow (nG g) s) c := fun k c hk hc hkr => by
    rw [m k c hk hc, if_neg hkr, Int.mul_tdiv_cancel' (t1 k c hk hc hkr)]
  have tab := t2 _ m1 m2
  have lex := h.tab.lexstep (W := lhW (nG g)) hv hl h.pos (by unfold lhW; omega) m1 m2
  have eb : ∀ k, k < nG g → basF (lhStep (nG g) s) k = basP (basF s) (lhRow (nG g) s) s.v k := fun k hk => by
    show ((s.bas.set (lhRow (nG g) s) (s.v : Nat)).getD k 0).toNat = _
    unfold basP basF
    by_cases e : k = lhRow (nG g) s
    · subst e
      rw [if_pos rfl]
      have : lhRow (nG g) s < s.bas.length := by rw [h.bl]; exact hr
      simp [List.getD_eq_getElem?_getD, this]
    · rw [if_neg e]
      simp [List.getD_eq_getElem?_getD, List.getElem?_set_ne (fun q => e q.symm)]
  have ed : ∀ (A : Mat), det (nG g) (BM A (basF (lhStep (nG g) s))) = det (nG g) (BM A (basP (basF s) (lhRow (nG g) s) s.v)) := fun A => det_congr fun i k hi hk => by
    unfold BM
    rw [eb k hk]
  have hv2 := h.vl
  refine ⟨⟨?_, ?_, ?_, ?_, ?_, ⟨tab.pos, ?_, fun i c hi hc => ?_, fun k hk => ?_⟩, lex.1⟩, ?_⟩
  · show (pivRows s.rows _ s.v s.den).length = _
    simp [pivRows, h.rl]
  · intro row hrow
    obtain ⟨i, hi, rfl⟩ := List.mem_map.1 (show row ∈ (List.range s.rows.length).map _ from hrow)
    have hi : i < nG g := by rw [← h.rl]; simpa using hi
    split
    · exact h.rowlen hr
    · simp only [pivRow, List.length_map, List.length_range]
      exact h.rowlen hi
  · show (s.bas.set _ _).length = _
    rw [List.length_set, h.bl]
  · intro b hb
    rcases List.mem_or_eq_of_mem_set (show b ∈ s.bas.set (lhRow (nG g) s) (s.v : Nat) from hb) with q | q
    · exact h.bb b q
    · rw [q]; omega
  · exact partN_lt (h.bas hr).2
  · rw [ed]
    exact tab.dt
  · show Go.Ab.sumTo (nG g) (fun k => lhE g i (basF (lhStep (nG g) s) k) * mAt (pivRows s.rows (lhRow (nG g) s) s.v s.den) k c) = mAt s.rows (lhRow (nG g) s) s.v * lhE g i c
    rw [← tab.eq i c hi hc]
    exact Go.Ab.sumTo_congr fun k hk => by rw [eb k hk]
  · rw [eb k hk]
    exact tab.lt k hk
  · exact lex.2

theorem LhI.zero (hg : IsGm g) {a : Nat} (ha : a < nG g) : LhI g (lhS0 g a) := by
  have rat : ∀ i c, i < nG g → c < 2 * nG g + 1 → mAt (lhRows0 g) i c = lhE g i c := fun i c hi hc => by
    unfold mAt lhRows0
    simp [List.getD_eq_getElem?_getD, hi, hc]
  have bat : ∀ k, k < nG g → basF (lhS0 g a) k = k := fun k hk => by
    show (((List.range (nG g)).map fun i => ((i : Nat) : Int)).getD k 0).toNat = k
    simp [List.getD_eq_getElem?_getD, hk]
  refine ⟨by simp [lhS0, lhRows0], fun r hr => ?_, by simp [lhS0], fun b hb => ?_, by show nG g + a < 2 * nG g; omega, ⟨by show (0 : Int) < 1; decide, .inl ?_, fun i c hi hc => ?_, fun k hk => by rw [bat k hk]; omega⟩, fun k hk => ?_⟩
  · obtain ⟨i, _, rfl⟩ := List.mem_map.1 (show r ∈ (List.range (nG g)).map _ from hr)
    simp
  · obtain ⟨i, hi, rfl⟩ := List.mem_map.1 (show b ∈ (List.range (nG g)).map _ from hb)
    have : i < nG g := by simpa using hi
    omega
  · show det (nG g) (BM (lhE g) (basF (lhS0 g a))) = 1
    rw [show det (nG g) (BM (lhE g) (basF (lhS0 g a))) = det (nG g) (fun i j => if i = j then 1 else 0) from det_congr fun i k hi hk => by
      unfold BM
      rw [bat k hk, lhE_unit hi hk]]
    exact det_one _
  · show Go.Ab.sumTo (nG g) (fun k => lhE g i (basF (lhS0 g a) k) * mAt (lhRows0 g) k c) = 1 * lhE g i c
    have : Go.Ab.sumTo (nG g) (fun k => lhE g i (basF (lhS0 g a) k) * mAt (lhRows0 g) k c) = Go.Ab.sumTo (nG g) fun k => if k = i then lhE g i c else 0 := Go.Ab.sumTo_congr fun k hk => by
      rw [bat k hk, lhE_unit hi hk, rat k c hk hc]
      by_cases e : k = i
      · subst e; rw [if_pos rfl, if_pos rfl, Int.one_mul]
      · rw [if_neg fun q => e q.symm, if_neg e, Int.zero_mul]
    rw [this, Go.Ab.sumTo_one hi fun k _ hne => if_neg hne, if_pos rfl, Int.one_mul]
  · refine ⟨0, by omega, ?_, fun i hi => by omega⟩
    show 0 < keyF (lhW (nG g)) (mAt (lhRows0 g)) k 0
    unfold keyF lhW
    rw [if_pos rfl, rat k _ hk (by omega)]
    unfold lhE
    rw [if_neg (by omega), if_neg (by omega)]
    decide

theorem lh_inv (hg : IsGm g) {a : Nat} (ha : a < nG g) : ∀ m, LhI g (lhIt g a m)
  | 0 => LhI.zero hg ha
  | m + 1 => ((lh_inv hg ha m).next hg).1

end
end Go.Proofs.YtbcfknboheghkaaGreat
/-! The end of the method of Lemke and Howson: both parts are not 0; what it answers. No condition. -/
namespace Go.Proofs.YtbcfknboheghkaaGreat
open Go.Ab

/-- What leaves is that of a. -/
def lhEnd (g : Game) (a m : Nat) : Prop := lhLeft (nG g) (lhIt g a m) = a ∨ lhLeft (nG g) (lhIt g a m) = nG g + a

section
variable {g : Game} {a : Nat}

theorem lh_way (hg : IsGm g) (ha : a < nG g) {M : Nat} (hno : ∀ m, m < M → ¬ lhEnd g a m) (hM : lhEnd g a M) :
    LWay (nG g) (lhE g) a M (fun m => basF (lhIt g a m)) (fun m => mAt (lhIt g a m).rows) (fun m => (lhIt g a m).den) (fun m => (lhIt g a m).v) (fun m => lhRow (nG g) (lhIt g a m)) := by
  have inv := lh_inv hg ha
  have lft : ∀ m, lhLeft (nG g) (lhIt g a m) = basF (lhIt g a m) (lhRow (nG g) (lhIt g a m)) := fun m => rfl
  refine ⟨fun m _ => (inv m).tab, fun m _ k hk => ((inv m).bas hk).2, fun m _ => (inv m).vl, fun m _ => ((inv m).least hg).1, fun m _ => ((inv m).next hg).2, fun m _ k hk => ?_, fun m _ => rfl, fun m hm => ?_, hM, rfl, fun k hk => ?_, ha⟩
  · have hr := ((inv m).least hg).1.lt
    show (((lhIt g a m).bas.set (lhRow (nG g) (lhIt g a m)) ((lhIt g a m).v : Nat)).getD k 0).toNat = _
    by_cases e : k = lhRow (nG g) (lhIt g a m)
    · rw [if_pos e, e]
      have : lhRow (nG g) (lhIt g a m) < (lhIt g a m).bas.length := by rw [(inv m).bl]; exact hr
      simp [List.getD_eq_getElem?_getD, this]
    · rw [if_neg e]
      show _ = ((lhIt g a m).bas.getD k 0).toNat
      simp [List.getD_eq_getElem?_getD, List.getElem?_set_ne (fun q => e q.symm)]
  · have := hno m hm
    exact ⟨fun q => this (.inl q), fun q => this (.inr q)⟩
  · show (((List.range (nG g)).map fun i => ((i : Nat) : Int)).getD k 0).toNat = k
    simp [List.getD_eq_getElem?_getD, hk]

/-- The numbers of z, told row by row. -/
def zTo (n : Nat) (s : LhS) : Nat → List Int
  | 0 => List.replicate n 0
  | i + 1 => if n ≤ basF s i then (zTo n s i).set (basF s i - n) (mAt s.rows i (2 * n)) else zTo n s i
def zOf (n : Nat) (s : LhS) : List Int := zTo n s n

theorem zTo_len (n : Nat) (s : LhS) : ∀ i, (zTo n s i).length = n
  | 0 => by simp [zTo]
  | i + 1 => by
    unfold zTo
    split
    · rw [List.length_set, zTo_len n s i]
    · exact zTo_len n s i

theorem zTo_at {n : Nat} {s : LhS} (hi : Inj n (basF s)) : ∀ i, i ≤ n → ∀ j, j < n → (zTo n s i).getD j 0 = Go.Ab.sumTo i fun k => if basF s k = n + j then mAt s.rows k (2 * n) else 0
  | 0, _, j, hj => by
    show (List.replicate n (0 : Int)).getD j 0 = 0
    simp [List.getD_eq_getElem?_getD, List.getElem?_replicate, hj]
  | i + 1, hin, j, hj => by
    have ih := zTo_at hi i (by omega) j hj
    have hl := zTo_len n s i
    show _ = (Go.Ab.sumTo i fun k => if basF s k = n + j then mAt s.rows k (2 * n) else 0) + if basF s i = n + j then mAt s.rows i (2 * n) else 0
    unfold zTo
    by_cases c : n ≤ basF s i
    · rw [if_pos c]
      by_cases e : basF s i = n + j
      · rw [if_pos e, show basF s i - n = j by omega]
        have z : (Go.Ab.sumTo i fun k => if basF s k = n + j then mAt s.rows k (2 * n) else 0) = 0 := Go.Ab.sumTo_zero fun k hk => if_neg fun q => by
          have := hi k i (by omega) (by omega) (q.trans e.symm)
          omega
        rw [z, Int.zero_add]
        simp [List.getD_eq_getElem?_getD, hl, hj]
      · rw [if_neg e, Int.add_zero, ← ih]
        simp only [List.getD_eq_getElem?_getD]
        rw [List.getElem?_set_ne (by omega)]
    · rw [if_neg c, if_neg (by omega), Int.add_zero, ih]

theorem zOf_len (n : Nat) (s : LhS) : (zOf n s).length = n := zTo_len n s n

theorem zOf_at {n : Nat} {s : LhS} (hi : Inj n (basF s)) {j : Nat} (hj : j < n) : (zOf n s).getD j 0 = Go.Ab.sumTo n fun k => if basF s k = n + j then mAt s.rows k (2 * n) else 0 := zTo_at hi n (Nat.le_refl n) j hj

theorem lex_first {m : Nat} {f : Nat → Int} (h : lexPos m f) : 0 ≤ f 0 := by
  obtain ⟨j, _, h1, h2⟩ := h
  by_cases e : j = 0
  · subst e
    exact Int.le_of_lt h1
  · rw [← h2 0 (by omega)]
    exact Int.le_refl 0

theorem LhI.right {s : LhS} (h : LhI g s) {k : Nat} (hk : k < nG g) : 0 ≤ mAt s.rows k (2 * nG g) := by
  have := lex_first (h.pos k hk)
  unfold keyF lhW at this
  rw [if_pos rfl] at this
  exact this

theorem zOf_abs (hg : IsGm g) {s : LhS} (h : LhI g s) : ∀ x ∈ zOf (nG g) s, 0 ≤ x ∧ x.natAbs ≤ 384000000 := fun x hx => by
  obtain ⟨j, hj, rfl⟩ := List.mem_iff_getElem.1 hx
  have hj2 : j < nG g := by rw [zOf_len] at hj; exact hj
  rw [← atD hj, zOf_at h.tab.inj hj2]
  by_cases c : ∃ k, k < nG g ∧ basF s k = nG g + j
  · obtain ⟨k, hk, e⟩ := c
    rw [Go.Ab.sumTo_one hk fun i hi hne => if_neg fun q => hne (h.tab.inj i k hi hk (q.trans e.symm)), if_pos e]
    exact ⟨h.right hk, h.tab.abs hg.kl (fun i c _ _ => lhE_abs hg i c) hk (by omega)⟩
  · rw [Go.Ab.sumTo_zero fun k hk => if_neg fun q => c ⟨k, hk, q⟩]
    decide

/-- A row of the system, by w and z. -/
theorem lh_row (hg : IsGm g) {s : LhS} (h : LhI g s) {i : Nat} (hi : i < nG g) (hn : ∀ k, k < nG g → basF s k ≠ i) : (Go.Ab.sumTo (nG g) fun j => -(gmE g i j) * (zOf (nG g) s).getD j 0) = s.den := by
  have hN : ∀ k, k < nG g → basF s k < 2 * nG g := fun k hk => (h.bas hk).2
  have e := h.tab.eq i (2 * nG g) hi (by omega)
  have e1 : s.den * lhE g i (2 * nG g) = s.den := by
    unfold lhE
    rw [if_neg (by omega), if_neg (by omega), Int.mul_one]
  rw [e1] at e
  rw [← e]
  -- by variables
  have e2 : (Go.Ab.sumTo (nG g) fun j => -(gmE g i j) * (zOf (nG g) s).getD j 0) = Go.Ab.sumTo (nG g) fun j => Go.Ab.sumTo (nG g) fun k => if basF s k = nG g + j then -(gmE g i j) * mAt s.rows k (2 * nG g) else 0 := Go.Ab.sumTo_congr fun j hj => by
    rw [zOf_at h.tab.inj hj, ← Go.Ab.sumTo_mul]
    refine Go.Ab.sumTo_congr fun k _ => ?_
    split
    · rfl
    · rw [Int.mul_zero]
  rw [e2, Go.Ab.sumTo_swap]
  refine Go.Ab.sumTo_congr fun k hk => ?_
  have hk2 := hN k hk
  by_cases c : basF s k < nG g
  · rw [Go.Ab.sumTo_zero fun j _ => if_neg (by omega)]
    unfold lhE
    rw [if_pos c, if_neg (fun q => hn k hk q.symm), Int.zero_mul]
  · rw [Go.Ab.sumTo_one (c := basF s k - nG g) (by omega) fun j _ hne => if_neg (by omega), if_pos (by omega)]
    unfold lhE
    rw [if_neg c, if_pos hk2]

theorem lh_other (hg : IsGm g) {s : LhS} (h : LhI g s) {i : Nat} (hi : i < nG g) (hn : ∀ k, k < nG g → basF s k ≠ i) : ∃ j, j < nG g ∧ (zOf (nG g) s).getD j 0 ≠ 0 ∧ ((i < g.1.length ∧ g.1.length ≤ j) ∨ (g.1.length ≤ i ∧ j < g.1.length)) := by
  refine Classical.byContradiction fun hno => ?_
  have e := lh_row hg h hi hn
  rw [Go.Ab.sumTo_zero fun j hj => ?_] at e
  · have := h.tab.pos
    omega
  · by_cases hpart : (i < g.1.length ∧ g.1.length ≤ j) ∨ (g.1.length ≤ i ∧ j < g.1.length)
    · have hz : (zOf (nG g) s).getD j 0 = 0 := Classical.byContradiction fun hne => hno ⟨j, hj, hne, hpart⟩
      rw [hz, Int.mul_zero]
    · have : gmE g i j = 0 := by
        unfold gmE
        rw [if_neg (fun q => hpart (.inl q)), if_neg (fun q => hpart (.inr q))]
      rw [this, Int.neg_zero, Int.zero_mul]

theorem lh_parts (hg : IsGm g) (ha : a < nG g) {M : Nat} (hno : ∀ m, m < M → ¬ lhEnd g a m) (hM : lhEnd g a M) :
    ((zOf (nG g) (lhIt g a (M + 1))).take g.1.length).sum ≠ 0 ∧ ((zOf (nG g) (lhIt g a (M + 1))).drop g.1.length).sum ≠ 0 := by
  have w := lh_way hg ha hno hM
  have inv := lh_inv hg ha (M + 1)
  have hz : ∀ x ∈ zOf (nG g) (lhIt g a (M + 1)), 0 ≤ x := fun x hx => (zOf_abs hg inv x hx).1
  have hl := zOf_len (nG g) (lhIt g a (M + 1))
  -- a number of z that is not 0 is one of the table, so its w is not
  have non : ∀ j, j < nG g → (zOf (nG g) (lhIt g a (M + 1))).getD j 0 ≠ 0 → ∀ k, k < nG g → basF (lhIt g a (M + 1)) k ≠ j := fun j hj hne k hk e => by
    rw [zOf_at inv.tab.inj hj] at hne
    refine hne (Go.Ab.sumTo_zero fun i hi => if_neg fun q => ?_)
    exact w.comp hj ⟨⟨k, hk, e⟩, ⟨i, hi, q⟩⟩
  have start : ∃ i, i < nG g ∧ ∀ k, k < nG g → basF (lhIt g a (M + 1)) k ≠ i := by
    refine Classical.byContradiction fun hno => w.off fun b => ?_
    have all : ∀ i, i < nG g → ∃ k, k < nG g ∧ basF (lhIt g a (M + 1)) k = i := fun i hi => Classical.byContradiction fun q => hno ⟨i, hi, fun k hk e => q ⟨k, hk, e⟩⟩
    constructor
    · rintro ⟨k, hk, rfl⟩
      by_cases c : basF (lhIt g a (M + 1)) k < nG g
      · exact ⟨_, c, w.b0 _ c⟩
      · exfalso
        have h2 := (inv.bas hk).2
        obtain ⟨k2, hk2, e⟩ := all (basF (lhIt g a (M + 1)) k - nG g) (by omega)
        refine w.comp (j := basF (lhIt g a (M + 1)) k - nG g) (by omega) ⟨⟨k2, hk2, e⟩, ⟨k, hk, by show basF (lhIt g a (M + 1)) k = _; omega⟩⟩
    · rintro ⟨k, hk, e⟩
      have : k = b := (w.b0 k hk).symm.trans e
      subst this
      exact all k hk
  obtain ⟨i, hi, hin⟩ := start
  obtain ⟨j, hj, hjz, hp⟩ := lh_other hg inv hi hin
  obtain ⟨j2, hj2, hjz2, hp2⟩ := lh_other hg inv hj (non j hj hjz)
  have lo : ∀ j, j < nG g → (zOf (nG g) (lhIt g a (M + 1))).getD j 0 ≠ 0 → j < g.1.length → ((zOf (nG g) (lhIt g a (M + 1))).take g.1.length).sum ≠ 0 := fun j hj hne hk =>
    sum_pos (fun x hx => hz x (List.mem_of_mem_take hx)) ⟨_, List.mem_take_iff_getElem.2 ⟨j, by omega, rfl⟩, by rw [← atD (by omega)]; exact hne⟩
  have hi' : ∀ j, j < nG g → (zOf (nG g) (lhIt g a (M + 1))).getD j 0 ≠ 0 → g.1.length ≤ j → ((zOf (nG g) (lhIt g a (M + 1))).drop g.1.length).sum ≠ 0 := fun j hj hne hk =>
    sum_pos (fun x hx => hz x (List.mem_of_mem_drop hx)) ⟨(zOf (nG g) (lhIt g a (M + 1)))[j]'(by omega), List.mem_iff_getElem.2 ⟨j - g.1.length, by simp; omega, by simp [show g.1.length + (j - g.1.length) = j by omega]⟩, by rw [← atD (by omega)]; exact hne⟩
  rcases hp with ⟨h1, h2⟩ | ⟨h1, h2⟩
  · rcases hp2 with ⟨h3, h4⟩ | ⟨h3, h4⟩
    · omega
    · exact ⟨lo j2 hj2 hjz2 h4, hi' j hj hjz h2⟩
  · rcases hp2 with ⟨h3, h4⟩ | ⟨h3, h4⟩
    · exact ⟨lo j hj hjz h2, hi' j2 hj2 hjz2 h4⟩
    · omega

end

/-- What the method answers. -/
noncomputable def lhRes (g : Game) (a : Int) : List Frac × Int × Int := open Classical in
  if IsGm g then (if 0 ≤ a ∧ a < (nG g : Nat) then (match (List.range 200).find? (fun m => decide (lhEnd g a.toNat m)) with
    | some m => (if (mixV g.1.length (zOf (nG g) (lhIt g a.toNat (m + 1)))).2 = 0 then ((mixV g.1.length (zOf (nG g) (lhIt g a.toNat (m + 1)))).1, ((m + 1 : Nat) : Int), 0) else ([], 0, (mixV g.1.length (zOf (nG g) (lhIt g a.toNat (m + 1)))).2))
    | none => ([], 0, 3)) else ([], 0, 2)) else ([], 0, 1)

end Go.Proofs.YtbcfknboheghkaaGreat

/-! Fractions with a common denominator: each numerator. No condition. -/
namespace Go.Proofs.YtbcfknboheghkaaGreat
open Go.Ab

theorem com_dvd {xs : List Frac} (h : Frs xs) : ∀ {m i : Nat}, m ≤ xs.length → i < m → (xs.getD i (0, 1)).2 ∣ comTo xs m
  | 0, _, _, h2 => by omega
  | m + 1, i, h1, h2 => by
    have key : ∀ d e : Int, d ∣ d.tdiv (Int.gcd d e) * e ∧ e ∣ d.tdiv (Int.gcd d e) * e := fun d e => by
      rw [Int.tdiv_eq_ediv_of_dvd (Int.gcd_dvd_left d e)]
      refine ⟨?_, Int.dvd_mul_left _ _⟩
      obtain ⟨k, hk⟩ := Int.gcd_dvd_right d e
      obtain ⟨j, hj⟩ := Int.gcd_dvd_left d e
      by_cases hg : (Int.gcd d e : Int) = 0
      · rw [hg, Int.zero_mul] at hk
        rw [hk]; simp
      · have e1 : d / (Int.gcd d e : Int) = j := by
          conv => lhs; lhs; rw [hj]
          rw [Int.mul_ediv_cancel_left _ hg]
        rw [e1]
        refine ⟨k, ?_⟩
        conv => lhs; rw [hk]
        conv => rhs; lhs; rw [hj]
        ac_rfl
    show _ ∣ comStep (comTo xs m) _
    unfold comStep
    by_cases e : i = m
    · subst e; exact (key _ _).2
    · exact Int.dvd_trans (com_dvd h (by omega) (by omega)) (key _ _).1

theorem tog_get {m n : Int} {xs : List Frac} (hf : Frs xs) {l : List Int} {d : Int} (h : tog m n xs = some (l, d)) : l.length = xs.length ∧ 1 ≤ d ∧ ∀ i, i < xs.length → l.getD i 0 * (xs.getD i (0, 1)).2 = (xs.getD i (0, 1)).1 * d := by
  unfold tog at h
  split at h
  · simp only [Option.some.injEq, Prod.mk.injEq] at h
    obtain ⟨rfl, rfl⟩ := h
    refine ⟨by simp, comTo_pos hf (Nat.le_refl _), fun i hi => ?_⟩
    have hd := com_dvd hf (Nat.le_refl _) hi
    rw [show (xs.map (comNum (comTo xs xs.length))).getD i 0 = comNum (comTo xs xs.length) xs[i] by simp [hi]]
    have e : xs.getD i (0, 1) = xs[i] := by simp [hi]
    rw [e] at hd ⊢
    unfold comNum
    rw [Int.tdiv_eq_ediv_of_dvd hd, Int.mul_assoc, Int.ediv_mul_cancel hd]
  · cases h

/-- Fractions by numbers z and a denominator D. -/
theorem tog_num {m n : Int} {xs : List Frac} {z : Nat → Int} {D : Int} {N : Nat} (hD : 0 < D) (hx : xs = (List.range N).map fun i => frac (z i) D) (hf : Frs xs) {l : List Int} {d : Int} (h : tog m n xs = some (l, d)) : l.length = N ∧ 1 ≤ d ∧ ∀ i, i < N → l.getD i 0 * D = z i * d := by
  obtain ⟨h1, h2, h3⟩ := tog_get hf h
  subst hx
  rw [List.length_map, List.length_range] at h1 h3
  refine ⟨h1, h2, fun i hi => ?_⟩
  have g := h3 i hi
  have e : ((List.range N).map fun i => frac (z i) D).getD i (0, 1) = frac (z i) D := by simp [List.getD_eq_getElem?_getD, hi]
  rw [e] at g
  have p := frac_pos (n := z i) (d := D) (by omega)
  have q := frac_mul (n := z i) (d := D) (by omega)
  generalize frac (z i) D = a at *
  refine Int.eq_of_mul_eq_mul_right (show a.2 ≠ 0 by omega) ?_
  rw [show l.getD i 0 * D * a.2 = l.getD i 0 * a.2 * D by ac_rfl, g, show a.1 * d * D = a.1 * D * d by ac_rfl, q]
  ac_rfl

end Go.Proofs.YtbcfknboheghkaaGreat

/-! Solutions of a game's problem are equilibria, and the choices that they use remain. No program here. -/
namespace Go.Proofs.YtbcfknboheghkaaGreat
open Go.Ab

def sA (g : Game) (z : List Int) (i : Nat) : Int := Go.Ab.sumTo (lw g) fun j => mAt g.1 i j * z.getD (g.1.length + j) 0
def sB (g : Game) (z : List Int) (j : Nat) : Int := Go.Ab.sumTo g.1.length fun i => mAt g.2 i j * z.getD i 0

/-- A solution other than 0 of a game's problem, by numerators. -/
structure EqZ (g : Game) (z : List Int) (D : Int) : Prop where
  len : z.length = nG g
  pos : ∀ x ∈ z, 0 ≤ x
  D0 : 0 < D
  a : ∀ i, i < g.1.length → sA g z i ≤ D ∧ (z.getD i 0 ≠ 0 → sA g z i = D)
  b : ∀ j, j < lw g → sB g z j ≤ D ∧ (z.getD (g.1.length + j) 0 ≠ 0 → sB g z j = D)
  one : (z.take g.1.length).sum ≠ 0
  two : (z.drop g.1.length).sum ≠ 0

theorem gq_split (f : Nat → Int) (a : Nat) : ∀ b, Go.Ab.sumTo (a + b) f = Go.Ab.sumTo a f + Go.Ab.sumTo b fun i => f (a + i)
  | 0 => by simp [Go.Ab.sumTo]
  | b + 1 => by
    show Go.Ab.sumTo (a + b) f + f (a + b) = Go.Ab.sumTo a f + (Go.Ab.sumTo b (fun i => f (a + i)) + f (a + b))
    rw [gq_split f a b]
    omega

theorem gq_same (f : Nat → Int) : ∀ n, sumTo f n = Go.Ab.sumTo n f
  | 0 => rfl
  | n + 1 => by
    show sumTo f n + f n = Go.Ab.sumTo n f + f n
    rw [gq_same f n]

theorem gq_rowA {g : Game} (z : List Int) {i : Nat} (hi : i < g.1.length) : (Go.Ab.sumTo (nG g) fun j => -(gmE g i j) * z.getD j 0) = sA g z i := by
  show Go.Ab.sumTo (g.1.length + lw g) _ = _
  rw [gq_split, Go.Ab.sumTo_zero fun j hj => ?_, Int.zero_add]
  · unfold sA
    refine Go.Ab.sumTo_congr fun j hj => ?_
    unfold gmE
    rw [if_pos ⟨hi, by omega⟩, Int.neg_neg, Nat.add_sub_cancel_left]
  · unfold gmE
    rw [if_neg (by omega), if_neg (by omega), Int.neg_zero, Int.zero_mul]

theorem gq_rowB {g : Game} (z : List Int) {j : Nat} (_ : j < lw g) : (Go.Ab.sumTo (nG g) fun c => -(gmE g (g.1.length + j) c) * z.getD c 0) = sB g z j := by
  show Go.Ab.sumTo (g.1.length + lw g) _ = _
  rw [gq_split, Go.Ab.sumTo_zero (n := lw g) fun c hc => ?_, Int.add_zero]
  · unfold sB
    refine Go.Ab.sumTo_congr fun i hi => ?_
    unfold gmE
    rw [if_neg (by omega), if_pos ⟨by omega, hi⟩, Int.neg_neg, Nat.add_sub_cancel_left]
  · unfold gmE
    rw [if_neg (by omega), if_neg (by omega), Int.neg_zero, Int.zero_mul]

theorem gq_of {g : Game} {z : List Int} {D : Int} (len : z.length = nG g) (pos : ∀ x ∈ z, 0 ≤ x) (D0 : 0 < D) (h : ∀ i, i < nG g → (Go.Ab.sumTo (nG g) fun j => -(gmE g i j) * z.getD j 0) ≤ D ∧ (z.getD i 0 ≠ 0 → (Go.Ab.sumTo (nG g) fun j => -(gmE g i j) * z.getD j 0) = D))
    (one : (z.take g.1.length).sum ≠ 0) (two : (z.drop g.1.length).sum ≠ 0) : EqZ g z D := by
  refine ⟨len, pos, D0, fun i hi => ?_, fun j hj => ?_, one, two⟩
  · have := h i (by show i < g.1.length + lw g; omega)
    rw [gq_rowA z hi] at this
    exact this
  · have := h (g.1.length + j) (by show _ < g.1.length + lw g; omega)
    rw [gq_rowB z hj] at this
    exact this

/-! ### The method of Lemke and Howson -/

/-! ### Mixes -/

theorem gq_frac {l : List Int} {d : Int} (h : (frAll l d).2 = 0) : (frAll l d).1 = (List.range l.length).map fun i => frac (l.getD i 0) d := by
  have h2 : (frAll l d).1 = l.map fun n => (fracT n d).1 := by
    unfold frAll at h ⊢
    split
    · rfl
    · rename_i c
      rw [if_neg c] at h
      exact absurd h (by decide)
  rw [h2]
  apply List.ext_getElem
  · simp
  · intro i h1 h3
    have hi : i < l.length := by simpa using h1
    have hall : (fracT l[i] d).2 = 0 := by
      unfold frAll at h
      split at h
      · rename_i c
        exact of_decide_eq_true (List.all_eq_true.1 c _ (List.getElem_mem hi))
      · exact absurd h (by decide)
    simp only [List.getElem_map, List.getElem_range]
    rw [atD hi]
    unfold fracT at hall ⊢
    split
    · rfl
    · rename_i c
      rw [if_neg c] at hall
      exact absurd hall (by decide)

theorem mix_parts {k : Nat} {z : List Int} (hm : (mixV k z).2 = 0) : (mixV k z).1 = ((List.range (z.take k).length).map fun i => frac ((z.take k).getD i 0) (z.take k).sum) ++ ((List.range (z.drop k).length).map fun i => frac ((z.drop k).getD i 0) (z.drop k).sum) := by
  unfold mixV at hm ⊢
  split
  · rename_i c
    rw [← gq_frac c.1, ← gq_frac c.2]
  · rename_i c
    rw [if_neg c] at hm
    exact absurd hm (by decide)

section
variable {g : Game} {z : List Int} {D : Int}

theorem EqZ.mix (h : EqZ g z D) (hm : (mixV g.1.length z).2 = 0) : (mixV g.1.length z).1.take g.1.length = ((List.range g.1.length).map fun i => frac (z.getD i 0) (z.take g.1.length).sum) ∧
    (mixV g.1.length z).1.drop g.1.length = ((List.range (lw g)).map fun j => frac (z.getD (g.1.length + j) 0) (z.drop g.1.length).sum) ∧ (mixV g.1.length z).1.length = nG g := by
  have hl := h.len
  have hnn : nG g = g.1.length + lw g := rfl
  have l1 : (z.take g.1.length).length = g.1.length := by simp; omega
  have l2 : (z.drop g.1.length).length = lw g := by simp; omega
  have e := mix_parts hm
  rw [l1, l2] at e
  have e1 : ((List.range g.1.length).map fun i => frac ((z.take g.1.length).getD i 0) (z.take g.1.length).sum) = (List.range g.1.length).map fun i => frac (z.getD i 0) (z.take g.1.length).sum := List.map_congr_left fun i hi => by
    have hi : i < g.1.length := by simpa using hi
    simp [List.getD_eq_getElem?_getD, List.getElem?_take, hi]
  have e2 : ((List.range (lw g)).map fun j => frac ((z.drop g.1.length).getD j 0) (z.drop g.1.length).sum) = (List.range (lw g)).map fun j => frac (z.getD (g.1.length + j) 0) (z.drop g.1.length).sum := List.map_congr_left fun i hi => by
    simp [List.getD_eq_getElem?_getD, List.getElem?_drop]
  rw [e1, e2] at e
  rw [e]
  refine ⟨?_, ?_, ?_⟩
  · rw [List.take_append_of_le_length (by simp), List.take_of_length_le (by simp)]
  · rw [List.drop_append_of_le_length (by simp), List.drop_of_length_le (by simp), List.nil_append]
  · simp [hnn]

theorem EqZ.X (h : EqZ g z D) : 0 < (z.take g.1.length).sum ∧ 0 < (z.drop g.1.length).sum := by
  have h1 := sum_nonneg fun x (hx : x ∈ z.take g.1.length) => h.pos x (List.mem_of_mem_take hx)
  have h2 := sum_nonneg fun x (hx : x ∈ z.drop g.1.length) => h.pos x (List.mem_of_mem_drop hx)
  have := h.one
  have := h.two
  omega

/-- The gains, in the solution's own numbers. -/
theorem gq_gainA {b : List Int} {Y db : Int} (hg : IsGm g) (hb : ∀ j, j < lw g → b.getD j 0 * Y = z.getD (g.1.length + j) 0 * db) {i : Nat} (hi : i < g.1.length) : (gainsA g b).getD i 0 * Y = sA g z i * db := by
  have e : (gainsA g b).getD i 0 = Go.Ab.sumTo (lw g) fun j => mAt g.1 i j * b.getD j 0 := by
    have : (gainsA g b).getD i 0 = dot g.1[i] b := by
      unfold gainsA
      simp [List.getD_eq_getElem?_getD, hi]
    rw [this]
    unfold dot
    rw [gq_same, (hg.a _ (List.getElem_mem hi)).1]
    refine Go.Ab.sumTo_congr fun j hj => ?_
    show g.1[i].getD j 0 * _ = _
    unfold mAt
    rw [getD_row hi]
  rw [e, Int.mul_comm, ← Go.Ab.sumTo_mul]
  unfold sA
  rw [Int.mul_comm, ← Go.Ab.sumTo_mul]
  refine Go.Ab.sumTo_congr fun j hj => ?_
  rw [show Y * (mAt g.1 i j * b.getD j 0) = mAt g.1 i j * (b.getD j 0 * Y) by ac_rfl, hb j hj]
  ac_rfl

theorem gq_gainB {a : List Int} {X da : Int} (ha : ∀ i, i < g.1.length → a.getD i 0 * X = z.getD i 0 * da) {j : Nat} (hj : j < lw g) : (gainsB g a).getD j 0 * X = sB g z j * da := by
  have e : (gainsB g a).getD j 0 = Go.Ab.sumTo g.1.length fun i => mAt g.2 i j * a.getD i 0 := by
    have : (gainsB g a).getD j 0 = gainB g a j g.1.length := by
      unfold gainsB
      simp [List.getD_eq_getElem?_getD, hj]
    rw [this]
    unfold gainB
    rw [gq_same]
  rw [e, Int.mul_comm, ← Go.Ab.sumTo_mul]
  unfold sB
  rw [Int.mul_comm, ← Go.Ab.sumTo_mul]
  refine Go.Ab.sumTo_congr fun i hi => ?_
  rw [show X * (mAt g.2 i j * a.getD i 0) = mAt g.2 i j * (a.getD i 0 * X) by ac_rfl, ha i hi]
  ac_rfl

theorem gq_rep {own gains : List Int} {s w : Nat → Int} {n : Nat} {Y db D : Int} (hl : gains.length = n) (hY : 0 < Y) (hdb : 0 < db) (hgn : ∀ i, i < n → gains.getD i 0 * Y = s i * db) (hs : ∀ i, i < n → s i ≤ D ∧ (w i ≠ 0 → s i = D)) (hol : own.length = n) (how : ∀ i, i < n → 0 < own.getD i 0 → w i ≠ 0) : repOk own gains := by
  intro i hi hp x hx
  obtain ⟨j, hj, rfl⟩ := List.mem_iff_getElem.1 hx
  have hin : i < n := by omega
  have hjn : j < n := by omega
  have e1 := (hs i hin).2 (how i hin hp)
  have e2 := (hs j hjn).1
  have g1 := hgn i hin
  have g2 := hgn j hjn
  rw [atD hj] at g2
  refine Int.le_of_mul_le_mul_right (a := Y) ?_ hY
  rw [g1, g2, e1]
  exact Int.mul_le_mul_of_nonneg_right e2 (Int.le_of_lt hdb)

/-- They are equilibria. -/
theorem EqZ.good (h : EqZ g z D) (hg : IsGm g) (hm : (mixV g.1.length z).2 = 0) (hc : (ieRes g ((mixV g.1.length z).1.take g.1.length) ((mixV g.1.length z).1.drop g.1.length)).2 = 0) : (ieRes g ((mixV g.1.length z).1.take g.1.length) ((mixV g.1.length z).1.drop g.1.length)).1 = true := by
  classical
  obtain ⟨e1, e2, _⟩ := h.mix hm
  obtain ⟨X0, Y0⟩ := h.X
  generalize hx : (mixV g.1.length z).1.take g.1.length = x at *
  generalize hy : (mixV g.1.length z).1.drop g.1.length = y at *
  unfold ieRes at hc ⊢
  rw [if_pos hg] at hc ⊢
  cases m1 : mixN x g.1.length with
  | none => rw [m1] at hc; exact absurd (show (2 : Int) = 0 from hc) (by decide)
  | some p =>
  obtain ⟨a, da⟩ := p
  cases m2 : mixN y (lw g) with
  | none => rw [m1, m2] at hc; exact absurd (show (2 : Int) = 0 from hc) (by decide)
  | some q =>
  obtain ⟨b, db⟩ := q
  obtain ⟨_, f1, t1, p1, _⟩ := mixN_facts m1
  obtain ⟨_, f2, t2, p2, _⟩ := mixN_facts m2
  obtain ⟨la, da1, ha⟩ := tog_num X0 e1 f1 t1
  obtain ⟨lb, db1, hb⟩ := tog_num Y0 e2 f2 t2
  refine decide_eq_true ⟨gq_rep (n := g.1.length) (s := sA g z) (w := fun i => z.getD i 0) (by simp [gainsA]) Y0 (show 0 < db by omega) (fun i hi => gq_gainA hg hb hi) h.a la fun i hi hp hz => ?_,
    gq_rep (n := lw g) (s := sB g z) (w := fun j => z.getD (g.1.length + j) 0) (by simp [gainsB]) X0 (show 0 < da by omega) (fun j hj => gq_gainB ha hj) h.b lb fun j hj hp hz => ?_⟩
  · have e := ha i hi
    rw [hz, Int.zero_mul] at e
    rcases Int.mul_eq_zero.1 e with e | e <;> omega
  · have e := hb j hj
    rw [hz, Int.zero_mul] at e
    rcases Int.mul_eq_zero.1 e with e | e <;> omega

/-! ### What remains -/

end

end Go.Proofs.YtbcfknboheghkaaGreat
