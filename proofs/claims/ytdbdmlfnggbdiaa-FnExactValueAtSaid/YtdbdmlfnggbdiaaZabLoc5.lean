/- Addresses of elements; the laws' helpers over things. -/
import Derived.Test.YtdbdmlfnggbdiaaZabLoc4
namespace Go.Ab

/-- Where the i-th element of a slice lies. -/
def elemPtr (m : Nat) (v : Value) (i : Nat) : Value := match v with | .slice (some a) _ _ => .pointer (some (a.add (i * m))) | _ => undef

theorem elem_of {α : Type} {r : Rd α} {H : Heap} {v : Value} {xs : List α} {i m : Nat} {κ : IntKind} {K : Post} (h : Has (Rd.slice r) H [v] xs) (hi : i < xs.length) (g : W.indexAddr m v (.int κ i) H K) : K (elemPtr m v i) H := by
  obtain ⟨bs, h⟩ := h
  obtain ⟨b, o, e, kb, fs, q1, _, s⟩ := Rd.slice_at h hi
  rw [q1] at g ⊢
  obtain ⟨_, _, g⟩ := g
  rw [Int.toNat_natCast] at g
  exact g

theorem Wl.adrH {α : Type} {r : Rd α} {H : Heap} {v : Value} {xs : List α} {i m : Nat} {κ : IntKind} {K : Post} (h : Has (Rd.slice r) H [v] xs) (hi : i < xs.length) (k : K (elemPtr m v i) H) : W.indexAddr m v (.int κ i) H K := by
  obtain ⟨bs, h⟩ := h
  obtain ⟨b, o, e, kb, fs, q1, _, s⟩ := Rd.slice_at h hi
  rw [q1] at k ⊢
  exact ⟨by omega, by omega, by rw [Int.toNat_natCast]; exact k⟩

section
variable {H0 H H' : Heap} {L L' L2 : List (Atom H0.next)} {K : Post}

theorem Wl.adr {α : Type} {r : Rd α} {v : Value} {xs : List α} {i m : Nat} {κ : IntKind} (h : Loc H0 L H) [RdV L [v] (Rd.slice r) xs] (hi : i < xs.length) (k : K (elemPtr m v i) H) : W.indexAddr m v (.int κ i) H K := Wl.adrH h.rd hi k

theorem Wl.ldIntH {v : Value} {xs : List Int} {i : Nat} (h : Has (Rd.slice Rd.int) H [v] xs) (hi : i < xs.length) (k : I64 xs[i] → K (.int .i64 xs[i]) H) : W.get (elemPtr 1 v i) H K :=
  elem_of (κ := .i64) (K := fun p H => W.get p H K) h hi (Wl.atIntH h hi k)

theorem Wl.ldInt {v : Value} {xs : List Int} {i : Nat} (h : Loc H0 L H) [RdV L [v] (Rd.slice Rd.int) xs] (hi : i < xs.length) (k : I64 xs[i] → K (.int .i64 xs[i]) H) : W.get (elemPtr 1 v i) H K := Wl.ldIntH h.rd hi k

theorem Wl.stInt {v : Value} {xs : List Int} {i j : Nat} {y : Int} (h : Loc H0 L H) [c : AtV L [v] (.data (Rd.slice Rd.int) [v] xs) j] [s : SetI L j (.data (Rd.slice Rd.int) [v] (xs.set i y)) L'] (hi : i < xs.length) (hy : I64 y)
    (k : ∀ H', Loc H0 L' H' → K undef H') : W.put (elemPtr 1 v i) (.int .i64 y) H K := by
  obtain ⟨bs, h1, _⟩ := h.mark c.get
  exact elem_of (κ := .i64) (K := fun p H => W.put p (.int .i64 y) H K) ⟨bs, h1⟩ hi (Wl.setInt h hi hy k)

theorem Wl.stRow {v u : Value} {us : List Value} {xs : List (List Int)} {a i j : Nat} {y : Int} (h : Loc H0 L H) (hj : L[j]? = some (.rows (Rd.slice Rd.int) v us xs)) (hu : us[a]? = some u) (ha : a < xs.length) (hi : i < xs[a].length) (hy : I64 y)
    [s : SetI L j (.rows (Rd.slice Rd.int) v us (xs.set a (xs[a].set i y))) L'] (k : ∀ H', Loc H0 L' H' → K undef H') : W.put (elemPtr 1 u i) (.int .i64 y) H K :=
  elem_of (κ := .i64) (K := fun p H => W.put p (.int .i64 y) H K) (h.row rfl hj hu ha) hi (Wl.rowSet h hj hu ha hi hy k)

/-! ### Calls of the laws' helpers -/

theorem Wl.eqA {α : Type} {P : Program} {f : FuncId} {r : Rd α} (hf : EqA P f r) (h : Loc H0 L H) {c1 c2 : List Value} {x : α} (h1 : Has r H c1 x) (h2 : Has r H c2 x) (k : ∀ H', H.Le H' → Loc H0 L H' → K (.bool true) H') :
    W.call P (.func (.func f) #[] #[]) #[.agg c1.toArray, .agg c2.toArray] H K := by
  obtain ⟨b1, h1⟩ := h1
  obtain ⟨b2, h2⟩ := h2
  exact Wi.call (hf _ _ _ _ _ _ _ _ h1 h2 (fun _ H' l => k H' l (h.to l)) fun e => absurd rfl e)

theorem Wl.eqC {α : Type} {P : Program} {f : FuncId} {r : Rd α} (hf : EqC P f r) (h : Loc H0 L H) {u1 u2 : Value} {x : α} (h1 : Has r H [u1] x) (h2 : Has r H [u2] x) (k : ∀ H', H.Le H' → Loc H0 L H' → K (.bool true) H') :
    W.call P (.func (.func f) #[] #[]) #[u1, u2] H K := by
  obtain ⟨b1, h1⟩ := h1
  obtain ⟨b2, h2⟩ := h2
  exact Wi.call (hf _ _ _ _ _ _ _ _ h1 h2 (fun _ H' l => k H' l (h.to l)) fun e => absurd rfl e)

theorem Wl.toA {α : Type} {P : Program} {f : FuncId} {r : Rd α} {w : α → Nat} (hf : ToA P f r w) (h : Loc H0 L H) {cs : List Value} {x : α} (h1 : Has r H cs x) (hw : w x ≤ 1048576) (k : ∀ H' cs', H.Le H' → Loc H0 (.data r cs' x :: L) H' → K (.agg cs'.toArray) H') :
    W.call P (.func (.func f) #[] #[]) #[.agg cs.toArray] H K := by
  obtain ⟨b1, h1⟩ := h1
  exact Wi.call (hf _ _ _ _ _ h1 hw fun H' cs' f => k H' cs' f.le (h.add f))

theorem Wl.toC {α : Type} {P : Program} {f : FuncId} {r : Rd α} {w : α → Nat} (hf : ToC P f r w) (h : Loc H0 L H) {u : Value} {x : α} (h1 : Has r H [u] x) (hw : w x ≤ 1048576) (k : ∀ H' u', H.Le H' → Loc H0 (.data r [u'] x :: L) H' → K u' H') :
    W.call P (.func (.func f) #[] #[]) #[u] H K := by
  obtain ⟨b1, h1⟩ := h1
  exact Wi.call (hf _ _ _ _ _ h1 hw fun H' u' f => k H' u' f.le (h.add f))

theorem Wl.markA {α : Type} {P : Program} {f : FuncId} {r : Rd α} {mk : α → Int → α} {sz : α → Nat} (hf : MarkA P f r mk sz) {cs : List Value} {x : α} {i : Nat} {m : Int} (h : Loc H0 L H) [c : AtV L cs (.data r cs x) i] [s : SetI L i (.data r cs (mk x m)) L']
    (h0 : 0 ≤ m) (hs : m + sz x < 4611686018427387904) (k : ∀ H', Loc H0 L' H' → K (.int .i64 (m + sz x)) H') : W.call P (.func (.func f) #[] #[]) #[.agg cs.toArray, .int .i64 m] H K := by
  obtain ⟨bs, h1, h2, h3, u⟩ := h.mark c.get
  exact Wi.call (hf _ _ _ _ _ _ h1 h2 h3 h0 hs fun H' g => k H' (by rw [s.eq]; exact u _ _ g))

theorem Wl.markC {α : Type} {P : Program} {f : FuncId} {r : Rd α} {mk : α → Int → α} {sz : α → Nat} (hf : MarkC P f r mk sz) {v : Value} {x : α} {i : Nat} {m : Int} (h : Loc H0 L H) [c : AtV L [v] (.data r [v] x) i] [s : SetI L i (.data r [v] (mk x m)) L']
    (h0 : 0 ≤ m) (hs : m + sz x < 4611686018427387904) (k : ∀ H', Loc H0 L' H' → K (.int .i64 (m + sz x)) H') : W.call P (.func (.func f) #[] #[]) #[v, .int .i64 m] H K := by
  obtain ⟨bs, h1, h2, h3, u⟩ := h.mark c.get
  exact Wi.call (hf _ _ _ _ _ _ h1 h2 h3 h0 hs fun H' g => k H' (by rw [s.eq]; exact u _ _ g))

theorem Wl.heldA {α : Type} {P : Program} {f : FuncId} {r : Rd α} {mk : α → Int → α} {sz : α → Nat} (hf : HeldA P f r mk sz) {cs : List Value} {x : α} {m : Int} (h : Loc H0 L H) (h1 : Has r H cs (mk x m))
    (h0 : 0 ≤ m) (hs : m + sz x < 4611686018427387904) (k : ∀ H', Loc H0 L H' → K (.int .i64 (m + sz x)) H') : W.call P (.func (.func f) #[] #[]) #[.agg cs.toArray, .int .i64 m] H K := by
  obtain ⟨bs, h1⟩ := h1
  exact Wi.call (hf _ _ _ _ _ _ h1 h0 hs fun H' l => k H' (h.to l))

theorem Wl.heldC {α : Type} {P : Program} {f : FuncId} {r : Rd α} {mk : α → Int → α} {sz : α → Nat} (hf : HeldC P f r mk sz) {v : Value} {x : α} {m : Int} (h : Loc H0 L H) (h1 : Has r H [v] (mk x m))
    (h0 : 0 ≤ m) (hs : m + sz x < 4611686018427387904) (k : ∀ H', Loc H0 L H' → K (.int .i64 (m + sz x)) H') : W.call P (.func (.func f) #[] #[]) #[v, .int .i64 m] H K := by
  obtain ⟨bs, h1⟩ := h1
  exact Wi.call (hf _ _ _ _ _ _ h1 h0 hs fun H' l => k H' (h.to l))

theorem Wl.szA {α : Type} {P : Program} {f : FuncId} {r : Rd α} {w : α → Nat} (hf : SzA P f r w) {cs : List Value} {x : α} {left : Int} (h : Loc H0 L H) (h1 : Has r H cs x) (h0 : 0 ≤ left) (hs : left < 4611686018427387904)
    (k1 : w x ≤ left → ∀ H', Loc H0 L H' → K (.int .i64 (left - w x)) H') (k2 : left < w x → ∀ H', Loc H0 L H' → K (.int .i64 (-1)) H') : W.call P (.func (.func f) #[] #[]) #[.agg cs.toArray, .int .i64 left] H K := by
  obtain ⟨bs, h1⟩ := h1
  exact Wi.call (hf _ _ _ _ _ _ h1 h0 hs (fun g H' l => k1 g H' (h.to l)) fun g H' l => k2 g H' (h.to l))

theorem Wl.szC {α : Type} {P : Program} {f : FuncId} {r : Rd α} {w : α → Nat} (hf : SzC P f r w) {v : Value} {x : α} {left : Int} (h : Loc H0 L H) (h1 : Has r H [v] x) (h0 : 0 ≤ left) (hs : left < 4611686018427387904)
    (k1 : w x ≤ left → ∀ H', Loc H0 L H' → K (.int .i64 (left - w x)) H') (k2 : left < w x → ∀ H', Loc H0 L H' → K (.int .i64 (-1)) H') : W.call P (.func (.func f) #[] #[]) #[v, .int .i64 left] H K := by
  obtain ⟨bs, h1⟩ := h1
  exact Wi.call (hf _ _ _ _ _ _ h1 h0 hs (fun g H' l => k1 g H' (h.to l)) fun g H' l => k2 g H' (h.to l))

end
end Go.Ab
