/- The laws' own helpers on structs: comparing, marking, telling marks. -/
import Derived.Test.YtdbdmlfnggbdiaaZabLaw3
namespace Go.Ab

/-- The value of some cells: one alone, or all together. -/
def valOf (agg : Bool) (cs : List Value) : Value := match agg with | true => .agg cs.toArray | false => cs.headD undef

def getW (agg : Bool) (n : Nat) (p : Value) (H : Heap) (k : Post) : Prop := match agg with | true => W.getN n p H k | false => W.get p H k

theorem getW_ok {agg : Bool} {n b o : Nat} {kb : Blk} {H : Heap} {k : Post} (hn : agg = false → n = 1) (hb : H.blk b = some kb) (hl : o + n ≤ kb.cells.length) (h : k (valOf agg ((kb.cells.drop o).take n)) H) : getW agg n (pt b o) H k := by
  cases agg with
  | true => exact Wi.getN hb hl h
  | false =>
    obtain ⟨u, h1, h2⟩ := one_cell (hn rfl) hl
    rw [h2] at h
    exact Wi.get hb h1 h

/-- A field of a struct, compared. -/
structure Fld where
  off : Nat
  n : Nat
  agg : Bool
  C : Cmp

def CmpV {α : Type} (agg : Bool) (r : Rd α) (C : Cmp) : Prop :=
  ∀ H b1 b2 c1 c2 x y A B, r.rel H b1 c1 x → r.rel H b2 c2 y → (x ≠ y → ∀ H', H.Le H' → A H') → (x = y → ∀ H', H.Le H' → B H') → C (valOf agg c1) (valOf agg c2) H A B

theorem CmpV.one {α : Type} {r : Rd α} {C : Cmp} (hr : r.n = 1) (h : CmpOK r C) : CmpV false r C := by
  intro H b1 b2 c1 c2 x y A B h1 h2 hA hB
  have l1 := r.len h1
  have l2 := r.len h2
  rw [hr] at l1 l2
  obtain ⟨u1, rfl⟩ := List.length_eq_one_iff.1 l1
  obtain ⟨u2, rfl⟩ := List.length_eq_one_iff.1 l2
  exact h _ _ _ _ _ _ _ _ _ h1 h2 hA hB

theorem CmpV.call {α : Type} {P : Program} {f : FuncId} {r : Rd α} (h : EqA P f r) :
    CmpV true r (fun u1 u2 H A B => W.call P (.func (.func f) #[] #[]) #[u1, u2] H fun v H => W.un .not v H fun v H => W.cond v H A B) := by
  intro H b1 b2 c1 c2 x y A B h1 h2 hA hB
  refine Wi.call (h _ _ _ _ _ _ _ _ h1 h2 (fun he H' l => Wi.not (Wi.fls (hB he H' l))) fun hn H' l => Wi.not (Wi.tru (hA hn H' l)))

inductive FlOK : Nat → {α : Type} → Rd α → List Fld → Prop
  | one {α : Type} {o : Nat} {r : Rd α} {agg : Bool} {C : Cmp} {n : Nat} (hn : r.n = n) (ha : agg = false → n = 1) (h : CmpV agg r C) : FlOK o r [⟨o, n, agg, C⟩]
  | pair {α β : Type} {o o' : Nat} {r : Rd α} {s : Rd β} {fs gs : List Fld} (h1 : FlOK o r fs) (ho : o + r.n = o') (h2 : FlOK o' s gs) : FlOK o (r.pair s) (fs ++ gs)

def eqFields (Q : Heap → Prop) (T : Heap → Prop) (p q : Value) : List Fld → Heap → Prop
  | [], H => T H
  | f :: fs, H => W.fieldAddr f.off p H fun v3 H => getW f.agg f.n v3 H fun v4 H => W.fieldAddr f.off q H fun v5 H => getW f.agg f.n v5 H fun v6 H => f.C v4 v6 H Q (fun H => eqFields Q T p q fs H)

theorem eqFields_append {Q T : Heap → Prop} {p q : Value} (gs : List Fld) : ∀ (fs : List Fld), eqFields Q T p q (fs ++ gs) = eqFields Q (eqFields Q T p q gs) p q fs
  | [] => by funext H; simp [eqFields]
  | f :: fs => by
    have ih := eqFields_append (Q := Q) (T := T) (p := p) (q := q) gs fs
    funext H
    simp only [List.cons_append, eqFields, ih]

theorem Wi.fieldAddr0 {b off : Nat} {H : Heap} {k : Post} (h : k (pt b off) H) : W.fieldAddr off (pt b 0) H k := Wi.fieldAddr (by rw [Nat.zero_add]; exact h)

theorem Rd.pair_split {α β : Type} {r : Rd α} {s : Rd β} {H : Heap} {bs : List Nat} {cells : List Value} {o : Nat} {x : α × β} (h : (r.pair s).rel H bs ((cells.drop o).take (r.n + s.n)) x) :
    ∃ b1 b2, bs = b1 ++ b2 ∧ r.rel H b1 ((cells.drop o).take r.n) x.1 ∧ s.rel H b2 ((cells.drop (o + r.n)).take s.n) x.2 := by
  obtain ⟨b1, b2, c1, c2, hb, hc, h1, h2⟩ := h
  have hl : r.n = c1.length := (r.len h1).symm
  refine ⟨b1, b2, hb, ?_, ?_⟩
  · have : (cells.drop o).take r.n = c1 := by
      have := congrArg (List.take r.n) hc
      rw [List.take_take, Nat.min_eq_left (by omega)] at this
      rw [this, hl, List.take_left]
    rw [this]; exact h1
  · have : (cells.drop (o + r.n)).take s.n = c2 := by
      have := congrArg (List.drop r.n) hc
      rw [List.drop_take, List.drop_drop, Nat.add_sub_cancel_left] at this
      rw [this, hl, List.drop_left]
    rw [this]; exact h2

theorem eqFields_ok {o : Nat} {α : Type} {r : Rd α} {fs : List Fld} (h : FlOK o r fs) : ∀ {H : Heap} {b1 b2 : Nat} {k1 k2 : Blk} {f1 f2 : List Nat} {x y : α} {Q T : Heap → Prop},
    H.blk b1 = some k1 → b1 < H.next → o + r.n ≤ k1.cells.length → r.rel H f1 ((k1.cells.drop o).take r.n) x →
    H.blk b2 = some k2 → b2 < H.next → o + r.n ≤ k2.cells.length → r.rel H f2 ((k2.cells.drop o).take r.n) y →
    (x ≠ y → ∀ H', H.Le H' → Q H') → (x = y → ∀ H', H.Le H' → T H') → eqFields Q T (pt b1 0) (pt b2 0) fs H := by
  induction h with
  | one hn ha h =>
    subst hn
    intro H b1 b2 k1 k2 f1 f2 x y Q T g1 _ g3 g4 g5 _ g7 g8 hQ hT
    exact Wi.fieldAddr0 (getW_ok ha g1 g3 (Wi.fieldAddr0 (getW_ok ha g5 g7 (h _ _ _ _ _ _ _ _ _ g4 g8 hQ hT))))
  | pair h1 ho h2 ih1 ih2 =>
    subst ho
    rename_i r s fs gs
    intro H b1 b2 k1 k2 f1 f2 x y Q T g1 g2 g3 g4 g5 g6 g7 g8 hQ hT
    simp only [Rd.pair] at g3 g7
    obtain ⟨p1, p2, _, q1, q2⟩ := Rd.pair_split g4
    obtain ⟨p1', p2', _, q1', q2'⟩ := Rd.pair_split g8
    rw [eqFields_append]
    refine ih1 g1 g2 (by omega) q1 g5 g6 (by omega) q1' (fun hne H' l => hQ (fun e => hne (by rw [e])) H' l) fun he H' l => ?_
    refine ih2 (l.at g1 g2) (Nat.lt_of_lt_of_le g2 l.next) (by omega) (Rd.le _ q2 l) (l.at g5 g6) (Nat.lt_of_lt_of_le g6 l.next) (by omega) (Rd.le _ q2' l)
      (fun hne H2 l2 => hQ (fun e => hne (by rw [e])) H2 (l.trans l2)) fun he2 H2 l2 => hT (Prod.ext he he2) H2 (l.trans l2)

def eqStructW (ty : TypeId) (fs : List Fld) (Q : Post) (a b : Value) (H : Heap) : Prop :=
  W.box a ty H fun p H => W.box b ty H fun q H => eqFields (fun H => Q (.bool false) H) (fun H => Q (.bool true) H) p q fs H

theorem EqA.struct {α : Type} {P : Program} {f : FuncId} {r : Rd α} {ty : TypeId} {fs : List Fld} (h : FlOK 0 r fs)
    (enter : ∀ (Q : Post) (a b : Value) (H : Heap), eqStructW ty fs Q a b H → Runs P f #[a, b] H Q) : EqA P f r := by
  intro H b1 b2 c1 c2 x y Q h1 h2 ht hf
  refine enter _ _ _ _ (Wi.box fun H1 l1 n1 k1 => Wi.box fun H2 l2 n2 k2 => ?_)
  have e1 : c1.take r.n = c1 := List.take_of_length_le (by rw [r.len h1]; exact Nat.le_refl _)
  have e2 : c2.take r.n = c2 := List.take_of_length_le (by rw [r.len h2]; exact Nat.le_refl _)
  refine eqFields_ok h (l2.at k1 (by omega)) (by omega) (by simp [r.len h1]) (by simpa [e1] using Rd.le _ h1 (l1.trans l2)) k2 (by omega) (by simp [r.len h2]) (by simpa [e2] using Rd.le _ h2 (l1.trans l2))
    (fun hne H' l => hf hne H' ((l1.trans l2).trans l)) fun he H' l => ht he H' ((l1.trans l2).trans l)

/-! ### Marking -/

structure MFld where
  off : Nat
  n : Nat
  agg : Bool
  M : Mrk

def MarkV {α : Type} (agg : Bool) (r : Rd α) (mk : α → Int → α) (sz : α → Nat) (M : Mrk) : Prop :=
  ∀ H bs cs x (k : Int) (K : Post), r.rel H bs cs x → bs.Nodup → RW H bs → 0 ≤ k → k + sz x < 4611686018427387904 →
    (∀ H', Marked r H bs cs (mk x k) H' → K (.int .i64 (k + sz x)) H') → M (valOf agg cs) (.int .i64 k) H K

theorem MarkV.one {α : Type} {P : Program} {f : FuncId} {r : Rd α} {mk : α → Int → α} {sz : α → Nat} (hr : r.n = 1) (h : MarkC P f r mk sz) :
    MarkV false r mk sz (fun v k H K => W.call P (.func (.func f) #[] #[]) #[v, k] H K) := by
  intro H bs cs x k K h1 hnd hrw hk hs hK
  have l1 := r.len h1
  rw [hr] at l1
  obtain ⟨u1, rfl⟩ := List.length_eq_one_iff.1 l1
  exact Wi.call (h _ _ _ _ _ _ h1 hnd hrw hk hs hK)

theorem MarkV.call {α : Type} {P : Program} {f : FuncId} {r : Rd α} {mk : α → Int → α} {sz : α → Nat} (h : MarkA P f r mk sz) :
    MarkV true r mk sz (fun v k H K => W.call P (.func (.func f) #[] #[]) #[v, k] H K) := by
  intro H bs cs x k K h1 hnd hrw hk hs hK
  exact Wi.call (h _ _ _ _ _ _ h1 hnd hrw hk hs hK)

inductive MfOK : Nat → {α : Type} → Rd α → (α → Int → α) → (α → Nat) → List MFld → Prop
  | none {α : Type} {o : Nat} {r : Rd α} : MfOK o r mk0 sz0 []
  | one {α : Type} {o : Nat} {r : Rd α} {mk : α → Int → α} {sz : α → Nat} {agg : Bool} {M : Mrk} {n : Nat} (hn : r.n = n) (ha : agg = false → n = 1) (h : MarkV agg r mk sz M) : MfOK o r mk sz [⟨o, n, agg, M⟩]
  | pair {α β : Type} {o o' : Nat} {r : Rd α} {s : Rd β} {mk : α → Int → α} {sz : α → Nat} {mk' : β → Int → β} {sz' : β → Nat} {fs gs : List MFld}
      (h1 : MfOK o r mk sz fs) (ho : o + r.n = o') (h2 : MfOK o' s mk' sz' gs) : MfOK o (r.pair s) (mkp mk sz mk') (szp sz sz') (fs ++ gs)

def markFields (T : Post) (p : Value) : List MFld → Value → Heap → Prop
  | [], k, H => T k H
  | f :: fs, k, H => W.fieldAddr f.off p H fun v H => getW f.agg f.n v H fun u H => f.M u k H (fun k' H => markFields T p fs k' H)

theorem markFields_append {T : Post} {p : Value} (gs : List MFld) : ∀ (fs : List MFld), markFields T p (fs ++ gs) = markFields (markFields T p gs) p fs
  | [] => by funext k H; simp [markFields]
  | f :: fs => by
    have ih := markFields_append (T := T) (p := p) gs fs
    funext k H
    simp only [List.cons_append, markFields, ih]

theorem markFields_ok {o : Nat} {α : Type} {r : Rd α} {mk : α → Int → α} {sz : α → Nat} {fs : List MFld} (h : MfOK o r mk sz fs) : ∀ {H : Heap} {b : Nat} {kb : Blk} {bs : List Nat} {x : α} {k : Int} {T : Post},
    H.blk b = some kb → b < H.next → b ∉ bs → o + r.n ≤ kb.cells.length → r.rel H bs ((kb.cells.drop o).take r.n) x → bs.Nodup → RW H bs → 0 ≤ k → k + sz x < 4611686018427387904 →
    (∀ H', Marked r H bs ((kb.cells.drop o).take r.n) (mk x k) H' → T (.int .i64 (k + sz x)) H') → markFields T (pt b 0) fs (.int .i64 k) H := by
  induction h with
  | none =>
    intro H b kb bs x k T g1 g2 g3 g4 g5 g6 g7 g8 g9 hT
    have := hT H ⟨Nat.le_refl _, g5, fun _ _ _ => rfl, g7⟩
    simpa [sz0, markFields] using this
  | one hn ha h =>
    subst hn
    intro H b kb bs x k T g1 g2 g3 g4 g5 g6 g7 g8 g9 hT
    exact Wi.fieldAddr0 (getW_ok ha g1 g4 (h _ _ _ _ _ _ g5 g6 g7 g8 g9 hT))
  | pair h1 ho h2 ih1 ih2 =>
    subst ho
    rename_i r s mk sz mk' sz' fs gs
    intro H b kb bs x k T g1 g2 g3 g4 g5 g6 g7 g8 g9 hT
    simp only [Rd.pair] at g4
    obtain ⟨p1, p2, hp, q1, q2⟩ := Rd.pair_split g5
    subst hp
    have hn := List.nodup_append.1 g6
    simp only [szp] at g9
    rw [markFields_append]
    simp only [List.mem_append, not_or] at g3
    refine ih1 g1 g2 g3.1 (by omega) q1 hn.1 g7.left g8 (by omega) fun H1 m1 => ?_
    have fr : ∀ c ∈ p2, H1.blk c = H.blk c := fun c hc => m1.off c (s.low q2 c hc) fun hc1 => hn.2.2 c hc1 c hc rfl
    refine ih2 (b := b) (kb := kb) (by rw [m1.off b g2 g3.1]; exact g1) (Nat.lt_of_lt_of_le g2 m1.next) g3.2 (by omega) (s.frame q2 m1.next fr) hn.2.1 (fun c hc kc hk => by
      rw [fr c hc] at hk; exact g7 c (List.mem_append_right _ hc) kc hk) (by omega) (by omega) fun H2 m2 => ?_
    have := hT H2 ⟨Nat.le_trans m1.next m2.next, ⟨p1, p2, _, _, rfl, by
        rw [← List.drop_drop]
        simp only [Rd.pair]
        exact List.take_add (l := kb.cells.drop _) .., r.frame m1.rel m2.next (fun c hc => m2.off c (r.low m1.rel c hc) fun hc2 => hn.2.2 c hc c hc2 rfl), m2.rel⟩,
      fun c hc hcb => by
        simp only [List.mem_append, not_or] at hcb
        rw [m2.off c (Nat.lt_of_lt_of_le hc m1.next) hcb.2, m1.off c hc hcb.1],
      fun c hc kc hk => by
        rw [List.mem_append] at hc
        rcases hc with hc | hc
        · rw [m2.off c (r.low m1.rel c hc) fun hc2 => hn.2.2 c hc c hc2 rfl] at hk
          exact m1.rw c hc kc hk
        · exact m2.rw c hc kc hk⟩
    simpa [szp, mkp, Int.add_assoc] using this

def markStructW (ty : TypeId) (fs : List MFld) (Q : Post) (a k : Value) (H : Heap) : Prop := W.box a ty H fun p H => markFields Q p fs k H

theorem MarkA.struct {α : Type} {P : Program} {f : FuncId} {r : Rd α} {mk : α → Int → α} {sz : α → Nat} {ty : TypeId} {fs : List MFld} (h : MfOK 0 r mk sz fs)
    (enter : ∀ (Q : Post) (a k : Value) (H : Heap), markStructW ty fs Q a k H → Runs P f #[a, k] H Q) : MarkA P f r mk sz := by
  intro H bs cs x k Q h1 hnd hrw hk hs hQ
  refine enter _ _ _ _ (Wi.box fun H1 l1 n1 k1 => ?_)
  have e1 : cs.take r.n = cs := List.take_of_length_le (by rw [r.len h1]; exact Nat.le_refl _)
  have low := r.low h1
  refine markFields_ok h k1 (by omega) (fun hb => by have := low _ hb; omega) (by simp [r.len h1]) (by simpa [e1] using Rd.le _ h1 l1) hnd (hrw.le l1 low) hk hs fun H2 m => ?_
  simp only [List.drop_zero, e1] at m
  refine hQ H2 ⟨Nat.le_trans l1.next m.next, m.rel, fun c hc hcb => ?_, m.rw⟩
  rw [m.off c (Nat.lt_of_lt_of_le hc l1.next) hcb, l1.blk c hc]

/-! ### Telling marks -/

structure HFld where
  off : Nat
  n : Nat
  agg : Bool
  M : Hld

def HeldV {α : Type} (agg : Bool) (r : Rd α) (mk : α → Int → α) (sz : α → Nat) (M : Hld) : Prop :=
  ∀ H bs cs x (k : Int) A (K : Post), r.rel H bs cs (mk x k) → 0 ≤ k → k + sz x < 4611686018427387904 → (∀ H', H.Le H' → K (.int .i64 (k + sz x)) H') → M (valOf agg cs) (.int .i64 k) H A K

theorem HeldV.one {α : Type} {P : Program} {f : FuncId} {r : Rd α} {mk : α → Int → α} {sz : α → Nat} (hr : r.n = 1) (h : HeldC P f r mk sz) :
    HeldV false r mk sz (fun v k H A K => W.call P (.func (.func f) #[] #[]) #[v, k] H fun v H => W.bin .lss v (.int .i64 0) H fun u H => W.cond u H A (K v)) := by
  intro H bs cs x k A K h1 hk hs hK
  have l1 := r.len h1
  rw [hr] at l1
  obtain ⟨u1, rfl⟩ := List.length_eq_one_iff.1 l1
  refine Wi.call (h _ _ _ _ _ _ h1 hk hs fun H' l => Wi.lss ?_)
  rw [show decide (k + (sz x : Int) < 0) = false by simp; omega]
  exact Wi.fls (hK H' l)

theorem HeldV.call {α : Type} {P : Program} {f : FuncId} {r : Rd α} {mk : α → Int → α} {sz : α → Nat} (h : HeldA P f r mk sz) :
    HeldV true r mk sz (fun v k H A K => W.call P (.func (.func f) #[] #[]) #[v, k] H fun v H => W.bin .lss v (.int .i64 0) H fun u H => W.cond u H A (K v)) := by
  intro H bs cs x k A K h1 hk hs hK
  refine Wi.call (h _ _ _ _ _ _ h1 hk hs fun H' l => Wi.lss ?_)
  rw [show decide (k + (sz x : Int) < 0) = false by simp; omega]
  exact Wi.fls (hK H' l)

inductive HfOK : Nat → {α : Type} → Rd α → (α → Int → α) → (α → Nat) → List HFld → Prop
  | none {α : Type} {o : Nat} {r : Rd α} : HfOK o r mk0 sz0 []
  | one {α : Type} {o : Nat} {r : Rd α} {mk : α → Int → α} {sz : α → Nat} {agg : Bool} {M : Hld} {n : Nat} (hn : r.n = n) (ha : agg = false → n = 1) (h : HeldV agg r mk sz M) : HfOK o r mk sz [⟨o, n, agg, M⟩]
  | pair {α β : Type} {o o' : Nat} {r : Rd α} {s : Rd β} {mk : α → Int → α} {sz : α → Nat} {mk' : β → Int → β} {sz' : β → Nat} {fs gs : List HFld}
      (h1 : HfOK o r mk sz fs) (ho : o + r.n = o') (h2 : HfOK o' s mk' sz' gs) : HfOK o (r.pair s) (mkp mk sz mk') (szp sz sz') (fs ++ gs)

def heldFields (A : Heap → Prop) (T : Post) (p : Value) : List HFld → Value → Heap → Prop
  | [], k, H => T k H
  | f :: fs, k, H => W.fieldAddr f.off p H fun v H => getW f.agg f.n v H fun u H => f.M u k H A (fun k' H => heldFields A T p fs k' H)

theorem heldFields_append {A : Heap → Prop} {T : Post} {p : Value} (gs : List HFld) : ∀ (fs : List HFld), heldFields A T p (fs ++ gs) = heldFields A (heldFields A T p gs) p fs
  | [] => by funext k H; simp [heldFields]
  | f :: fs => by
    have ih := heldFields_append (A := A) (T := T) (p := p) gs fs
    funext k H
    simp only [List.cons_append, heldFields, ih]

theorem heldFields_ok {o : Nat} {α : Type} {r : Rd α} {mk : α → Int → α} {sz : α → Nat} {fs : List HFld} (h : HfOK o r mk sz fs) : ∀ {H : Heap} {b : Nat} {kb : Blk} {bs : List Nat} {x : α} {k : Int} {A : Heap → Prop} {T : Post},
    H.blk b = some kb → b < H.next → o + r.n ≤ kb.cells.length → r.rel H bs ((kb.cells.drop o).take r.n) (mk x k) → 0 ≤ k → k + sz x < 4611686018427387904 →
    (∀ H', H.Le H' → T (.int .i64 (k + sz x)) H') → heldFields A T (pt b 0) fs (.int .i64 k) H := by
  induction h with
  | none =>
    intro H b kb bs x k A T g1 g2 g4 g5 g8 g9 hT
    have := hT H (.refl _)
    simpa [sz0, heldFields] using this
  | one hn ha h =>
    subst hn
    intro H b kb bs x k A T g1 g2 g4 g5 g8 g9 hT
    exact Wi.fieldAddr0 (getW_ok ha g1 g4 (h _ _ _ _ _ _ _ g5 g8 g9 hT))
  | pair h1 ho h2 ih1 ih2 =>
    subst ho
    rename_i r s mk sz mk' sz' fs gs
    intro H b kb bs x k A T g1 g2 g4 g5 g8 g9 hT
    simp only [Rd.pair] at g4
    obtain ⟨p1, p2, hp, q1, q2⟩ := Rd.pair_split g5
    simp only [szp] at g9
    simp only [mkp] at q1 q2
    rw [heldFields_append]
    refine ih1 g1 g2 (by omega) q1 g8 (by omega) fun H1 l1 => ?_
    refine ih2 (l1.at g1 g2) (Nat.lt_of_lt_of_le g2 l1.next) (by omega) (Rd.le _ q2 l1) (by omega) (by omega) fun H2 l2 => ?_
    have := hT H2 (l1.trans l2)
    simpa [szp, Int.add_assoc] using this

def heldStructW (ty : TypeId) (fs : List HFld) (Q : Post) (a k : Value) (H : Heap) : Prop := W.box a ty H fun p H => heldFields (fun H => Q (.int .i64 (-1)) H) Q p fs k H

theorem HeldA.struct {α : Type} {P : Program} {f : FuncId} {r : Rd α} {mk : α → Int → α} {sz : α → Nat} {ty : TypeId} {fs : List HFld} (h : HfOK 0 r mk sz fs)
    (enter : ∀ (Q : Post) (a k : Value) (H : Heap), heldStructW ty fs Q a k H → Runs P f #[a, k] H Q) : HeldA P f r mk sz := by
  intro H bs cs x k Q h1 hk hs hQ
  refine enter _ _ _ _ (Wi.box fun H1 l1 n1 k1 => ?_)
  have e1 : cs.take r.n = cs := List.take_of_length_le (by rw [r.len h1]; exact Nat.le_refl _)
  exact heldFields_ok h k1 (by omega) (by simp [r.len h1]) (by simpa [e1] using Rd.le _ h1 l1) hk hs fun H2 l2 => hQ H2 (l1.trans l2)

end Go.Ab
