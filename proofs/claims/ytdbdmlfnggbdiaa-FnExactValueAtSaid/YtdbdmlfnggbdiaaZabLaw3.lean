/- The laws' own helpers: marks by calls, telling marks. -/
import Derived.Test.YtdbdmlfnggbdiaaZabLaw2
namespace Go.Ab

theorem one_cell {cells : List Value} {o : Nat} {r : Nat} (hr : r = 1) (hl : o + r ≤ cells.length) : ∃ u, cells[o]? = some u ∧ (cells.drop o).take r = [u] := by
  subst hr
  have h : o < cells.length := by omega
  refine ⟨cells[o], List.getElem?_eq_getElem h, ?_⟩
  rw [List.drop_eq_getElem_cons h]
  rfl

theorem MarkE.call {α : Type} {P : Program} {f : FuncId} {r : Rd α} {mk : α → Int → α} {sz : α → Nat} (hr : r.n = 1) (h : MarkC P f r mk sz) :
    MarkE r mk sz (fun p k H K => W.get p H fun v H => W.call P (.func (.func f) #[] #[]) #[v, k] H K) := by
  intro H b o kb bs x k K hb hlt hro hl hrel hbs hnd hrw hk hs hK
  obtain ⟨u, hu, hd⟩ := one_cell hr hl
  rw [hd] at hrel
  refine Wi.get hb hu (Wi.call (h _ _ _ _ _ _ hrel hnd hrw hk hs fun H' m => ?_))
  refine hK H' [u] m.next ?_ m.rel (fun c hc _ hcb => m.off c hc hcb) m.rw
  rw [m.off b hlt hbs, hb]
  congr 2
  have : (kb.cells.take o ++ [u] ++ kb.cells.drop (o + r.n)) = kb.cells := by
    rw [← hd, List.append_assoc, ← List.drop_drop, List.take_append_drop, List.take_append_drop]
  rw [this]

/-- Marking a slice by a function whose text is this. -/
theorem MarkC.slice {α : Type} {P : Program} {f : FuncId} {r : Rd α} {mk : α → Int → α} {sz : α → Nat} {M : Mrk} {n1 n2 n : Nat} (hn : r.n = n) (hM : MarkE r mk sz M)
    (enter : ∀ (Q : Post) (a k : Value) (H : Heap), markSliceW n1 n2 n M Q a k H → Runs P f #[a, k] H Q) : MarkC P f (Rd.slice r) (mkl mk sz) (szl sz) := by
  subst hn
  intro H bs v x k Q h hnd hrw hk hs hQ
  exact enter _ _ _ _ (markSlice_ok hM h hnd hrw hk hs hQ)

theorem EqC.slice {α : Type} {P : Program} {f : FuncId} {r : Rd α} (hr : r.n = 1) {C : Cmp} (hC : CmpOK r C) {n : Nat}
    (enter : ∀ (Q : Post) (a b : Value) (H : Heap), eqSliceW n C Q a b H → Runs P f #[a, b] H Q) : EqC P f (Rd.slice r) := by
  intro H b1 b2 u1 u2 x y Q h1 h2 ht hf
  exact enter _ _ _ _ (eqSlice_ok hr hC h1 h2 ht hf)

/-! ### Telling marks -/

def HeldC {α : Type} (P : Program) (f : FuncId) (r : Rd α) (mk : α → Int → α) (sz : α → Nat) : Prop :=
  ∀ H bs v x (k : Int) (Q : Post), r.rel H bs [v] (mk x k) → 0 ≤ k → k + sz x < 4611686018427387904 → (∀ H', H.Le H' → Q (.int .i64 (k + sz x)) H') → Runs P f #[v, .int .i64 k] H Q

abbrev Hld := Value → Value → Heap → (Heap → Prop) → Post → Prop

def HeldE {α : Type} (r : Rd α) (mk : α → Int → α) (sz : α → Nat) (M : Hld) : Prop :=
  ∀ H b o kb bs x (k : Int) A (K : Post), H.blk b = some kb → b < H.next → o + r.n ≤ kb.cells.length → r.rel H bs ((kb.cells.drop o).take r.n) (mk x k) → 0 ≤ k → k + sz x < 4611686018427387904 →
    (∀ H', H.Le H' → K (.int .i64 (k + sz x)) H') → M (pt b o) (.int .i64 k) H A K

theorem HeldE.int : HeldE Rd.int (fun _ k => k) (fun _ => 1) (fun p k H A K => W.get p H fun v H => W.bin .neq v k H fun v H => W.cond v H A fun H => W.bin .add k (.int .i64 1) H K) := by
  intro H b o kb bs x k A K hb hlt hl hr hk hs hK
  obtain ⟨u, hu, hd⟩ := one_cell (r := Rd.int.n) rfl hl
  rw [hd] at hr
  obtain ⟨_, h2, _⟩ := hr
  simp only [List.cons.injEq, and_true] at h2
  subst h2
  have hs' : k + 1 < 4611686018427387904 := hs
  refine Wi.get hb hu (Wi.neq ?_)
  rw [show (k != k) = false by simp]
  exact Wi.fls (Wi.add (by unfold I64; omega) (hK H (.refl _)))

theorem HeldE.call {α : Type} {P : Program} {f : FuncId} {r : Rd α} {mk : α → Int → α} {sz : α → Nat} (hr : r.n = 1) (h : HeldC P f r mk sz) :
    HeldE r mk sz (fun p k H A K => W.get p H fun v H => W.call P (.func (.func f) #[] #[]) #[v, k] H fun v H => W.bin .lss v (.int .i64 0) H fun u H => W.cond u H A (K v)) := by
  intro H b o kb bs x k A K hb hlt hl hrel hk hs hK
  obtain ⟨u, hu, hd⟩ := one_cell hr hl
  rw [hd] at hrel
  refine Wi.get hb hu (Wi.call (h _ _ _ _ _ _ hrel hk hs fun H' l => Wi.lss ?_))
  rw [show decide (k + (sz x : Int) < 0) = false by simp; omega]
  exact Wi.fls (hK H' l)

def heldSliceW (n1 n2 sz : Nat) (M : Hld) (Q : Post) (a k : Value) (H : Heap) : Prop :=
  W.loop (S := St [n1, n2]) (fun I s H => W.len a H fun v1 H => W.bin .lss s.2.1 v1 H fun v2 H => W.cond v2 H
    (fun H => W.indexAddr sz a s.2.1 H fun v3 H => M v3 s.1 H (fun H => Q (.int .i64 (-1)) H) (fun k' H => W.bin .add s.2.1 (.int .i64 1) H fun v5 H => I (k', v5, ()) H))
    (fun H => Q s.1 H)) (k, .int .i64 0, ()) H

theorem heldSlice_ok {α : Type} {r : Rd α} {mk : α → Int → α} {sz : α → Nat} {M : Hld} (hM : HeldE r mk sz M) {n1 n2 : Nat} {Q : Post} {H : Heap} {bs : List Nat} {a : Value} {xs : List α} {k : Int}
    (h : (Rd.slice r).rel H bs [a] (mkl mk sz xs k)) (hk : 0 ≤ k) (hs : k + szl sz xs < 4611686018427387904)
    (hQ : ∀ H', H.Le H' → Q (.int .i64 (k + szl sz xs)) H') : heldSliceW n1 n2 r.n M Q a (.int .i64 k) H := by
  have hx := Rd.slice_small h
  rw [mkl_length] at hx
  unfold heldSliceW
  refine W.loop_rule (fun s H' => ∃ zs ws, xs = zs ++ ws ∧ s = (.int .i64 (k + szl sz zs), .int .i64 zs.length, ()) ∧ H.Le H')
    (fun s _ => match s.2.1 with | .int _ i => xs.length - i.toNat | _ => 0) ⟨[], xs, rfl, by simp [szl]; rfl, .refl _⟩ ?_
  rintro s H1 ⟨zs, ws, hxs, rfl, m⟩
  have hH := Rd.le _ h m
  obtain ⟨p1, e1, g1⟩ := Rd.slice_val hH
  simp only [List.cons.injEq, and_true, mkl_length] at g1
  rw [g1]
  simp only
  refine Wi.len (Wi.lss (Wi.cond (fun hlt => ?_) fun hge => ?_))
  · have hz : zs.length < xs.length := by
      simp only [decide_eq_true_eq] at hlt; omega
    cases ws with
    | nil => rw [hxs] at hz; simp at hz
    | cons x ws =>
      obtain ⟨b, o, e, kb, fs, q1, q2, s⟩ := Rd.slice_at hH (i := zs.length) (by rw [mkl_length]; exact hz)
      rw [mkl_length] at q1
      rw [← g1, q1]
      have hin := s.in (i := zs.length) (by rw [mkl_length]; exact hz)
      have hel := s.each zs.length (by rw [mkl_length]; exact hz)
      have hget : (mkl mk sz xs k)[zs.length]'(by rw [mkl_length]; exact hz) = mk x (k + szl sz zs) := by
        simp only [hxs, mkl_append]
        rw [List.getElem_append_right (by rw [mkl_length]; exact Nat.le_refl _)]
        simp [mkl_length, mkl]
      rw [hget] at hel
      have hszs : szl sz xs = szl sz zs + (sz x + szl sz ws) := by rw [hxs, szl_append]; rfl
      refine Wi.index hz (hM H1 b _ kb (fs zs.length) x _ _ _ s.blk s.lt hin hel (by omega) (by omega) ?_)
      intro H2 l2
      refine Wi.add (by unfold I64; omega) ⟨⟨zs ++ [x], ws, by rw [hxs]; simp, ?_, m.trans l2⟩, ?_⟩
      · simp [szl_append, szl, Int.add_assoc]
        rfl
      · simp only
        simp
        omega
  · have hz : zs.length = xs.length := by
      have : zs.length ≤ xs.length := by rw [hxs]; simp
      simp only [decide_eq_false_iff_not] at hge
      omega
    have : ws = [] := by
      rw [hxs] at hz
      simp at hz
      exact hz
    subst this
    rw [List.append_nil] at hxs
    subst hxs
    exact hQ H1 m

theorem HeldC.slice {α : Type} {P : Program} {f : FuncId} {r : Rd α} {mk : α → Int → α} {sz : α → Nat} {M : Hld} {n1 n2 n : Nat} (hn : r.n = n) (hM : HeldE r mk sz M)
    (enter : ∀ (Q : Post) (a k : Value) (H : Heap), heldSliceW n1 n2 n M Q a k H → Runs P f #[a, k] H Q) : HeldC P f (Rd.slice r) (mkl mk sz) (szl sz) := by
  subst hn
  intro H bs v x k Q h hk hs hQ
  exact enter _ _ _ _ (heldSlice_ok hM h hk hs hQ)

/-! ### Structs: given as their cells together -/

def EqA {α : Type} (P : Program) (f : FuncId) (r : Rd α) : Prop :=
  ∀ H b1 b2 c1 c2 x y (Q : Post), r.rel H b1 c1 x → r.rel H b2 c2 y → (x = y → ∀ H', H.Le H' → Q (.bool true) H') → (x ≠ y → ∀ H', H.Le H' → Q (.bool false) H') → Runs P f #[.agg c1.toArray, .agg c2.toArray] H Q

def MarkA {α : Type} (P : Program) (f : FuncId) (r : Rd α) (mk : α → Int → α) (sz : α → Nat) : Prop :=
  ∀ H bs cs x (k : Int) (Q : Post), r.rel H bs cs x → bs.Nodup → RW H bs → 0 ≤ k → k + sz x < 4611686018427387904 →
    (∀ H', Marked r H bs cs (mk x k) H' → Q (.int .i64 (k + sz x)) H') → Runs P f #[.agg cs.toArray, .int .i64 k] H Q

def HeldA {α : Type} (P : Program) (f : FuncId) (r : Rd α) (mk : α → Int → α) (sz : α → Nat) : Prop :=
  ∀ H bs cs x (k : Int) (Q : Post), r.rel H bs cs (mk x k) → 0 ≤ k → k + sz x < 4611686018427387904 → (∀ H', H.Le H' → Q (.int .i64 (k + sz x)) H') → Runs P f #[.agg cs.toArray, .int .i64 k] H Q

section
variable {α β : Type} (mk : α → Int → α) (sz : α → Nat) (mk' : β → Int → β) (sz' : β → Nat)
def mkp (x : α × β) (k : Int) : α × β := (mk x.1 k, mk' x.2 (k + sz x.1))
def szp (x : α × β) : Nat := sz x.1 + sz' x.2
end

/-- What is not marked. -/
def mk0 {α : Type} (x : α) (_ : Int) : α := x
def sz0 {α : Type} (_ : α) : Nat := 0

theorem RW.le {H H' : Heap} {bs : List Nat} (h : RW H bs) (l : H.Le H') (low : ∀ b ∈ bs, b < H.next) : RW H' bs := fun c hc kc hk => by
  rw [l.blk c (low c hc)] at hk
  exact h c hc kc hk

theorem RW.left {H : Heap} {a b : List Nat} (h : RW H (a ++ b)) : RW H a := fun c hc => h c (List.mem_append_left _ hc)
theorem RW.right {H : Heap} {a b : List Nat} (h : RW H (a ++ b)) : RW H b := fun c hc => h c (List.mem_append_right _ hc)

end Go.Ab
