/- Slices of fractions, two cells each: reading, writing, comparing, copying, marking. No program here. -/
import Derived.Test.YtdbdmlfnggbdiaaZabMore
import Derived.Test.YtdbdmlfnggbdiaaZabFrac
import Derived.Test.YtdbdmlfnggbdiaaZabRowG
namespace Go.Ab

abbrev RFrac : Rd Frac := Rd.pair Rd.int Rd.int
abbrev RFS : Rd (List Frac) := Rd.slice RFrac

/-- A fraction's two cells. -/
abbrev frC (a : Frac) : List Value := [.int .i64 a.1, .int .i64 a.2]

theorem RFrac_iff {H : Heap} {bs : List Nat} {cs : List Value} {a : Frac} : RFrac.rel H bs cs a ↔ bs = [] ∧ cs = frC a ∧ I64 a.1 ∧ I64 a.2 := by
  constructor
  · rintro ⟨b1, b2, c1, c2, rfl, rfl, ⟨rfl, rfl, h1⟩, rfl, rfl, h2⟩
    exact ⟨rfl, rfl, h1, h2⟩
  · rintro ⟨rfl, rfl, h1, h2⟩
    exact ⟨[], [], _, _, rfl, rfl, ⟨rfl, rfl, h1⟩, rfl, rfl, h2⟩

theorem frac_rel {a : Frac} (h : I64 a.1 ∧ I64 a.2) (H : Heap) : RFrac.rel H [] (frC a) a := RFrac_iff.2 ⟨rfl, rfl, h⟩

theorem hasFrac {H : Heap} {cs : List Value} {a : Frac} (h : Has RFrac H cs a) : cs = frC a ∧ I64 a.1 ∧ I64 a.2 := let ⟨_, h⟩ := h; (RFrac_iff.1 h).2

theorem SlAt.frac {H : Heap} {b o e : Nat} {kb : Blk} {fs : Nat → List Nat} {xs : List Frac} (s : SlAt RFrac H b o e kb fs xs) {i : Nat} (hi : i < xs.length) :
    o + i * 2 + 2 ≤ kb.cells.length ∧ (kb.cells.drop (o + i * 2)).take 2 = frC xs[i] ∧ I64 xs[i].1 ∧ I64 xs[i].2 := by
  obtain ⟨_, h2, h3⟩ := RFrac_iff.1 (s.each i hi)
  exact ⟨s.in hi, h2, h3⟩

theorem SlAt.cell1 {H : Heap} {b o e : Nat} {kb : Blk} {fs : Nat → List Nat} {xs : List Frac} (s : SlAt RFrac H b o e kb fs xs) {i : Nat} (hi : i < xs.length) :
    kb.cells[o + i * 2]? = some (.int .i64 xs[i].1) ∧ kb.cells[o + i * 2 + 1]? = some (.int .i64 xs[i].2) := by
  obtain ⟨h1, h2, _⟩ := s.frac hi
  have e0 : ((kb.cells.drop (o + i * 2)).take 2)[0]? = (frC xs[i])[0]? := by rw [h2]
  have e1 : ((kb.cells.drop (o + i * 2)).take 2)[1]? = (frC xs[i])[1]? := by rw [h2]
  rw [List.getElem?_take, if_pos (by omega), List.getElem?_drop] at e0 e1
  exact ⟨by simpa using e0, by simpa using e1⟩

/-- A fraction out of a slice. -/
theorem Wl.atFrH {v : Value} {xs : List Frac} {i : Nat} {κ : IntKind} {H : Heap} {K : Post} (h : Has RFS H [v] xs) (hi : i < xs.length) (k : I64 xs[i].1 → I64 xs[i].2 → K (.agg (frC xs[i]).toArray) H) :
    W.indexAddr 2 v (.int κ i) H fun p H => W.getN 2 p H K := by
  obtain ⟨bs, h⟩ := h
  obtain ⟨b, o, e, kb, fs, q1, _, s⟩ := Rd.slice_at h hi
  obtain ⟨h1, h2, h3, h4⟩ := s.frac hi
  rw [q1]
  refine Wi.index hi (Wi.getN s.blk h1 ?_)
  rw [h2]
  exact k h3 h4

/-- The numbers of a fraction in a slice. -/
theorem Wl.numFrH {v : Value} {xs : List Frac} {i : Nat} {κ : IntKind} {H : Heap} {K : Post} (h : Has RFS H [v] xs) (hi : i < xs.length) (k : I64 xs[i].1 → K (.int .i64 xs[i].1) H) :
    W.indexAddr 2 v (.int κ i) H fun p H => W.fieldAddr 0 p H fun p H => W.get p H K := by
  obtain ⟨bs, h⟩ := h
  obtain ⟨b, o, e, kb, fs, q1, _, s⟩ := Rd.slice_at h hi
  obtain ⟨h1, h2⟩ := s.cell1 hi
  rw [q1]
  exact Wi.index hi (Wi.fieldAddr (Wi.get s.blk (by simpa using h1) (k (s.frac hi).2.2.1)))

theorem Wl.denFrH {v : Value} {xs : List Frac} {i : Nat} {κ : IntKind} {H : Heap} {K : Post} (h : Has RFS H [v] xs) (hi : i < xs.length) (k : I64 xs[i].2 → K (.int .i64 xs[i].2) H) :
    W.indexAddr 2 v (.int κ i) H fun p H => W.fieldAddr 1 p H fun p H => W.get p H K := by
  obtain ⟨bs, h⟩ := h
  obtain ⟨b, o, e, kb, fs, q1, _, s⟩ := Rd.slice_at h hi
  obtain ⟨h1, h2⟩ := s.cell1 hi
  rw [q1]
  exact Wi.index hi (Wi.fieldAddr (Wi.get s.blk h2 (k (s.frac hi).2.2.2)))

variable {H0 H : Heap} {L L' : List (Atom H0.next)} {K : Post}

theorem Wl.atFr {v : Value} {xs : List Frac} {i : Nat} {κ : IntKind} (h : Loc H0 L H) [RdV L [v] RFS xs] (hi : i < xs.length) (k : I64 xs[i].1 → I64 xs[i].2 → K (.agg (frC xs[i]).toArray) H) :
    W.indexAddr 2 v (.int κ i) H fun p H => W.getN 2 p H K := Wl.atFrH h.rd hi k
theorem Wl.numFr {v : Value} {xs : List Frac} {i : Nat} {κ : IntKind} (h : Loc H0 L H) [RdV L [v] RFS xs] (hi : i < xs.length) (k : I64 xs[i].1 → K (.int .i64 xs[i].1) H) :
    W.indexAddr 2 v (.int κ i) H fun p H => W.fieldAddr 0 p H fun p H => W.get p H K := Wl.numFrH h.rd hi k
theorem Wl.denFr {v : Value} {xs : List Frac} {i : Nat} {κ : IntKind} (h : Loc H0 L H) [RdV L [v] RFS xs] (hi : i < xs.length) (k : I64 xs[i].2 → K (.int .i64 xs[i].2) H) :
    W.indexAddr 2 v (.int κ i) H fun p H => W.fieldAddr 1 p H fun p H => W.get p H K := Wl.denFrH h.rd hi k

/-- A number whose one of two cells is set. -/
theorem set_two {cells : List Value} {o : Nat} {a b y : Value} (h : (cells.drop o).take 2 = [a, b]) : cells.set o y = cells.take o ++ [y, b] ++ cells.drop (o + 2) ∧ cells.set (o + 1) y = cells.take o ++ [a, y] ++ cells.drop (o + 2) := by
  have hl : o + 2 ≤ cells.length := by
    have : ((cells.drop o).take 2).length = 2 := by rw [h]; rfl
    simp at this
    omega
  have e : cells = cells.take o ++ [a, b] ++ cells.drop (o + 2) := by
    rw [← h, List.append_assoc, ← List.drop_drop, List.take_append_drop, List.take_append_drop]
  have ht : (cells.take o).length = o := by simp; omega
  constructor
  · conv => lhs; rw [e]
    rw [List.append_assoc, List.set_append_right _ _ (by omega), ht]
    simp
  · conv => lhs; rw [e]
    rw [List.append_assoc, List.set_append_right _ _ (by omega), ht]
    simp

theorem eqFracS_ok {xs ys : List Frac} (hl : xs.length = ys.length) : (∀ i, i < xs.length → decide (xs.getD i (0, 0) = ys.getD i (0, 0)) = true) ↔ xs = ys := by
  constructor
  · intro h
    apply List.ext_getElem hl
    intro i h1 h2
    have := h i h1
    simpa [List.getD_eq_getElem?_getD, List.getElem?_eq_getElem h1, List.getElem?_eq_getElem h2] using this
  · rintro rfl i _
    simp

/-- The numbers of a fraction in a slice, written. -/
theorem Wi.setNum {H : Heap} {bs : List Nat} {v : Value} {xs : List Frac} {i : Nat} {y : Int} {κ : IntKind} {K : Post} (h : RFS.rel H bs [v] xs) (hrw : RW H bs) (hi : i < xs.length) (hy : I64 y)
    (k : ∀ H', Marked RFS H bs [v] (xs.set i (y, xs[i].2)) H' → K undef H') : W.indexAddr 2 v (.int κ i) H fun p H => W.fieldAddr 0 p H fun p H => W.put p (.int .i64 y) H K := by
  obtain ⟨b0, o0, e0, kb0, fs, q1, _, s⟩ := Rd.slice_at h hi
  obtain ⟨h1, h2, h3, h4⟩ := s.frac hi
  obtain ⟨b, o, e, kb, rfl, q2, q3, q4, q5⟩ := Marked.setP (y := (y, xs[i].2)) (cs := frC (y, xs[i].2)) h hrw hi (frac_rel ⟨hy, h4⟩)
  simp only [Value.slice.injEq, Option.some.injEq, Addr.mk.injEq] at q1
  obtain ⟨⟨rfl, rfl, _⟩, _, rfl⟩ := q1
  have hk : kb = kb0 := by have := s.blk; rw [q2] at this; exact Option.some.inj this
  subst hk
  refine Wi.index hi (Wi.fieldAddr (Wi.put q2 rfl q3 (by simp only [RFrac, Rd.pair, Rd.int] at q4; omega) fun H' w => k H' (q5 H' ?_)))
  rw [Nat.add_zero, (set_two h2).1] at w
  exact w

theorem Wi.setDen {H : Heap} {bs : List Nat} {v : Value} {xs : List Frac} {i : Nat} {y : Int} {κ : IntKind} {K : Post} (h : RFS.rel H bs [v] xs) (hrw : RW H bs) (hi : i < xs.length) (hy : I64 y)
    (k : ∀ H', Marked RFS H bs [v] (xs.set i (xs[i].1, y)) H' → K undef H') : W.indexAddr 2 v (.int κ i) H fun p H => W.fieldAddr 1 p H fun p H => W.put p (.int .i64 y) H K := by
  obtain ⟨b0, o0, e0, kb0, fs, q1, _, s⟩ := Rd.slice_at h hi
  obtain ⟨h1, h2, h3, h4⟩ := s.frac hi
  obtain ⟨b, o, e, kb, rfl, q2, q3, q4, q5⟩ := Marked.setP (y := (xs[i].1, y)) (cs := frC (xs[i].1, y)) h hrw hi (frac_rel ⟨h3, hy⟩)
  simp only [Value.slice.injEq, Option.some.injEq, Addr.mk.injEq] at q1
  obtain ⟨⟨rfl, rfl, _⟩, _, rfl⟩ := q1
  have hk : kb = kb0 := by have := s.blk; rw [q2] at this; exact Option.some.inj this
  subst hk
  refine Wi.index hi (Wi.fieldAddr (Wi.put q2 rfl q3 (by simp only [RFrac, Rd.pair, Rd.int] at q4; omega) fun H' w => k H' (q5 H' ?_)))
  rw [(set_two h2).2] at w
  exact w

/-! ### Marks of fractions -/
abbrev mkFr : Frac → Int → Frac := fun _ k => (k, k + 1)
abbrev mkFS := mkl mkFr (fun _ => 2)
abbrev szFS := szl (fun (_ : Frac) => 2)

theorem szFS_len (xs : List Frac) : szFS xs = 2 * xs.length := by
  induction xs with
  | nil => rfl
  | cons x xs ih => simp only [szl, ih, List.length_cons]; omega

theorem mkFS_at (xs : List Frac) (k : Int) {i : Nat} (hi : i < xs.length) : (mkFS xs k)[i]'(by rw [mkl_length]; exact hi) = (k + 2 * (i : Nat), k + 2 * (i : Nat) + 1) := by
  induction xs generalizing k i with
  | nil => simp at hi
  | cons x xs ih =>
    cases i with
    | zero => simp [mkl, mkFr]
    | succ i =>
      simp only [mkl, List.getElem_cons_succ]
      rw [ih _ (by simpa using hi)]
      ext <;> simp <;> omega

theorem mkFS_step {xs : List Frac} {k : Int} {i : Nat} (hi : i < xs.length) : (mkFS (xs.take i) k ++ xs.drop i).set i (k + 2 * (i : Nat), k + 2 * (i : Nat) + 1) = mkFS (xs.take (i + 1)) k ++ xs.drop (i + 1) := by
  have hl : (mkFS (xs.take i) k).length = i := by rw [mkl_length]; simp; omega
  rw [List.set_append_right _ _ (by omega), hl, Nat.sub_self, List.drop_eq_getElem_cons hi, List.set_cons_zero, List.take_succ_eq_append_getElem hi]
  have : szFS (xs.take i) = 2 * i := by rw [szFS_len]; simp; omega
  unfold szFS at this
  unfold mkFS
  rw [mkl_append, this]
  simp [mkl, mkFr]

end Go.Ab
