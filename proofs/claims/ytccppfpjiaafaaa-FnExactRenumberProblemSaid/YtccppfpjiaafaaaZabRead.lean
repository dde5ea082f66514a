/- Reading slices. -/
import Derived.Test.YtccppfpjiaafaaaZabLoop
namespace Go.Ab

/-- The i-th element of a slice of one-cell elements. -/
theorem Rd.slice_get {α : Type} {r : Rd α} (hr : r.n = 1) {H : Heap} {bs : List Nat} {v : Value} {xs : List α} (h : (Rd.slice r).rel H bs [v] xs) {i : Nat} (hi : i < xs.length) :
    ∃ b o e kb u bs', v = .slice (some (adr b o)) xs.length e ∧ H.blk b = some kb ∧ kb.cells[o + i * 1]? = some u ∧ r.rel H bs' [u] xs[i] := by
  obtain ⟨b, o, e, kb, fs, q1, _, s⟩ := Rd.slice_at h hi
  obtain ⟨u, m1, r1⟩ := s.one hr hi
  exact ⟨b, o, e, kb, u, _, q1, s.blk, m1, r1⟩

theorem Wi.at1 {α : Type} {r : Rd α} (hr : r.n = 1) {H : Heap} {bs : List Nat} {v : Value} {xs : List α} {k : Post} (h : (Rd.slice r).rel H bs [v] xs) {i : Nat} (hi : i < xs.length)
    (hk : ∀ u bs', r.rel H bs' [u] xs[i] → k u H) : W.indexAddr 1 v (.int .i64 i) H fun p H => W.get p H k := by
  obtain ⟨b, o, e, kb, u, bs', q1, hb, m1, r1⟩ := Rd.slice_get hr h hi
  rw [q1]
  exact Wi.index hi (Wi.get hb m1 (hk u bs' r1))

theorem Wi.atInt {H : Heap} {bs : List Nat} {v : Value} {xs : List Int} {k : Post} (h : (Rd.slice Rd.int).rel H bs [v] xs) {i : Nat} (hi : i < xs.length)
    (hk : k (.int .i64 xs[i]) H) : W.indexAddr 1 v (.int .i64 i) H fun p H => W.get p H k := by
  refine Wi.at1 rfl h hi fun u bs' hr => ?_
  obtain ⟨_, hu, _⟩ := hr
  simp only [List.cons.injEq, and_true] at hu
  rw [hu]
  exact hk

theorem Wi.lenOf {α : Type} {r : Rd α} {H : Heap} {bs : List Nat} {v : Value} {xs : List α} {k : Post} (h : (Rd.slice r).rel H bs [v] xs) (hk : k (.int .i64 xs.length) H) : W.len v H k := by
  obtain ⟨p1, e1, g1⟩ := Rd.slice_val h
  simp only [List.cons.injEq, and_true] at g1
  rw [g1]
  exact hk

theorem Wi.indexE {b o n e sz i : Nat} {κ : IntKind} {v : Value} {H : Heap} {k : Post} (hv : v = .slice (some (adr b o)) n e) (hi : i < n) (h : k (pt b (o + i * sz)) H) : W.indexAddr sz v (.int κ (i : Int)) H k := by
  rw [hv]
  exact Wi.index hi h

end Go.Ab
