/- Slices of fractions, two cells each: reading, writing, comparing, copying, marking. No program here. -/
import Derived.Test.YtdbdmlfnggbdiaaZabMore
import Derived.Test.YtdbdmlfnggbdiaaZabFrac
import Derived.Test.YtdbdmlfnggbdiaaZabRowG
namespace Go.Ab

abbrev RFrac : Rd Frac := Rd.pair Rd.int Rd.int
abbrev RFS : Rd (List Frac) := Rd.slice RFrac

/-- A fraction's two cells. -/
abbrev frC (a : Frac) : List Value := [.int .i64 a.1, .int .i64 a.2]

theorem RFrac_iff {H : Heap} {bs : List Nat} {cs : List Value} {a : Frac} : RFrac.rel H bs cs a ↔ bs = [] ∧ cs = frC a ∧ I64 a.1 ∧ I64 a.2 := by
  constructor
  · rintro ⟨b1, b2, c1, c2, rfl, rfl, ⟨rfl, rfl, h1⟩, rfl, rfl, h2⟩
    exact ⟨rfl, rfl, h1, h2⟩
  · rintro ⟨rfl, rfl, h1, h2⟩
    exact ⟨[], [], _, _, rfl, rfl, ⟨rfl, rfl, h1⟩, rfl, rfl, h2⟩

theorem frac_rel {a : Frac} (h : I64 a.1 ∧ I64 a.2) (H : Heap) : RFrac.rel H [] (frC a) a := RFrac_iff.2 ⟨rfl, rfl, h⟩

theorem hasFrac {H : Heap} {cs : List Value} {a : Frac} (h : Has RFrac H cs a) : cs = frC a ∧ I64 a.1 ∧ I64 a.2 := let ⟨_, h⟩ := h; (RFrac_iff.1 h).2

theorem SlAt.frac {H : Heap} {b o e : Nat} {kb : Blk} {fs : Nat → List Nat} {xs : List Frac} (s : SlAt RFrac H b o e kb fs xs) {i : Nat} (hi : i < xs.length) :
    o + i * 2 + 2 ≤ kb.cells.length ∧ (kb.cells.drop (o + i * 2)).take 2 = frC xs[i] ∧ I64 xs[i].1 ∧ I64 xs[i].2 := by
  obtain ⟨_, h2, h3⟩ := RFrac_iff.1 (s.each i hi)
  exact ⟨s.in hi, h2, h3⟩

theorem SlAt.cell1 {H : Heap} {b o e : Nat} {kb : Blk} {fs : Nat → List Nat} {xs : List Frac} (s : SlAt RFrac H b o e kb fs xs) {i : Nat} (hi : i < xs.length) :
    kb.cells[o + i * 2]? = some (.int .i64 xs[i].1) ∧ kb.cells[o + i * 2 + 1]? = some (.int .i64 xs[i].2) := by
  obtain ⟨h1, h2, _⟩ := s.frac hi
  have e0 : ((kb.cells.drop (o + i * 2)).take 2)[0]? = (frC xs[i])[0]? := by rw [h2]
  have e1 : ((kb.cells.drop (o + i * 2)).take 2)[1]? = (frC xs[i])[1]? := by rw [h2]
  rw [List.getElem?_take, if_pos (by omega), List.getElem?_drop] at e0 e1
  exact ⟨by simpa using e0, by simpa using e1⟩

/-- A fraction out of a slice. -/
theorem Wl.atFrH {v : Value} {xs : List Frac} {i : Nat} {κ : IntKind} {H : Heap} {K : Post} (h : Has RFS H [v] xs) (hi : i < xs.length) (k : I64 xs[i].1 → I64 xs[i].2 → K (.agg (frC xs[i]).toArray) H) :
    W.indexAddr 2 v (.int κ i) H fun p H => W.getN 2 p H K := by
  obtain ⟨bs, h⟩ := h
  obtain ⟨b, o, e, kb, fs, q1, _, s⟩ := Rd.slice_at h hi
  obtain ⟨h1, h2, h3, h4⟩ := s.frac hi
  rw [q1]
  refine Wi.index hi (Wi.getN s.blk h1 ?_)
  rw [h2]
  exact k h3 h4

/-- The numbers of a fraction in a slice. -/
theorem Wl.numFrH {v : Value} {xs : List Frac} {i : Nat} {κ : IntKind} {H : Heap} {K : Post} (h : Has RFS H [v] xs) (hi : i < xs.length) (k : I64 xs[i].1 → K (.int .i64 xs[i].1) H) :
    W.indexAddr 2 v (.int κ i) H fun p H => W.fieldAddr 0 p H fun p H => W.get p H K := by
  obtain ⟨bs, h⟩ := h
  obtain ⟨b, o, e, kb, fs, q1, _, s⟩ := Rd.slice_at h hi
  obtain ⟨h1, h2⟩ := s.cell1 hi
  rw [q1]
  exact Wi.index hi (Wi.fieldAddr (Wi.get s.blk (by simpa using h1) (k (s.frac hi).2.2.1)))

theorem Wl.denFrH {v : Value} {xs : List Frac} {i : Nat} {κ : IntKind} {H : Heap} {K : Post} (h : Has RFS H [v] xs) (hi : i < xs.length) (k : I64 xs[i].2 → K (.int .i64 xs[i].2) H) :
    W.indexAddr 2 v (.int κ i) H fun p H => W.fieldAddr 1 p H fun p H => W.get p H K := by
  obtain ⟨bs, h⟩ := h
  obtain ⟨b, o, e, kb, fs, q1, _, s⟩ := Rd.slice_at h hi
  obtain ⟨h1, h2⟩ := s.cell1 hi
  rw [q1]
  exact Wi.index hi (Wi.fieldAddr (Wi.get s.blk h2 (k (s.frac hi).2.2.2)))

variable {H0 H : Heap} {L L' : List (Atom H0.next)} {K : Post}

theorem Wl.atFr {v : Value} {xs : List Frac} {i : Nat} {κ : IntKind} (h : Loc H0 L H) [RdV L [v] RFS xs] (hi : i < xs.length) (k : I64 xs[i].1 → I64 xs[i].2 → K (.agg (frC xs[i]).toArray) H) :
    W.indexAddr 2 v (.int κ i) H fun p H => W.getN 2 p H K := Wl.atFrH h.rd hi k
theorem Wl.numFr {v : Value} {xs : List Frac} {i : Nat} {κ : IntKind} (h : Loc H0 L H) [RdV L [v] RFS xs] (hi : i < xs.length) (k : I64 xs[i].1 → K (.int .i64 xs[i].1) H) :
    W.indexAddr 2 v (.int κ i) H fun p H => W.fieldAddr 0 p H fun p H => W.get p H K := Wl.numFrH h.rd hi k
theorem Wl.denFr {v : Value} {xs : List Frac} {i : Nat} {κ : IntKind} (h : Loc H0 L H) [RdV L [v] RFS xs] (hi : i < xs.length) (k : I64 xs[i].2 → K (.int .i64 xs[i].2) H) :
    W.indexAddr 2 v (.int κ i) H fun p H => W.fieldAddr 1 p H fun p H => W.get p H K := Wl.denFrH h.rd hi k

/-- A number whose one of two cells is set. -/
theorem set_two {cells : List Value} {o : Nat} {a b y : Value} (h : (cells.drop o).take 2 = [a, b]) : cells.set o y = cells.take o ++ [y, b] ++ cells.drop (o + 2) ∧ cells.set (o + 1) y = cells.take o ++ [a, y] ++ cells.drop (o + 2) := by
  have hl : o + 2 ≤ cells.length := by
    have : ((cells.drop o).take 2).length = 2 := by rw [h]; rfl
    simp at this
    omega
  have e : cells = cells.take o ++ [a, b] ++ cells.drop (o + 2) := by
    rw [← h, List.append_assoc, ← List.drop_drop, List.take_append_drop, List.take_append_drop]
  have ht : (cells.take o).length = o := by simp; omega
  constructor
  · conv => lhs; rw [e]
    rw [List.append_assoc, List.set_append_right _ _ (by omega), ht]
    simp
  · conv => lhs; rw [e]
    rw [List.append_assoc, List.set_append_right _ _ (by omega), ht]
    simp

theorem eqFracS_ok {xs ys : List Frac} (hl : xs.length = ys.length) : (∀ i, i < xs.length → decide (xs.getD i (0, 0) = ys.getD i (0, 0)) = true) ↔ xs = ys := by
  constructor
  · intro h
    apply List.ext_getElem hl
    intro i h1 h2
    have := h i h1
    simpa [List.getD_eq_getElem?_getD, List.getElem?_eq_getElem h1, List.getElem?_eq_getElem h2] using this
  · rintro rfl i _
    simp

end Go.Ab
