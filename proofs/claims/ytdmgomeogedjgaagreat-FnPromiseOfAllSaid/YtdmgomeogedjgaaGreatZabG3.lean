/- Readings: what a value on the abstract heap stands for; and how a proof goes through the words. -/
import Derived.Test.YtdmgomeogedjgaaGreatZabG2
namespace Go.Ab

/-! ### Going through the words -/
section
variable {H : Heap} {k : Post}

abbrev adr (b : Nat) (o : Nat) : Addr := ⟨b, o, none⟩
abbrev pt (b : Nat) (o : Nat) : Value := .pointer (some ⟨b, o, none⟩)

theorem Wi.call {P : Program} {f : FuncId} {xs : Array Value} (h : Runs P f xs H k) : W.call P (.func (.func f) #[] #[]) xs H k := by
  unfold W.call
  simpa using h

theorem Wi.callQ {P : Program} {f : FuncId} {xs : Array Value} (h : Runs P f xs H (fun v H' => H.Le H' ∧ k v H')) : W.callQ P (.func (.func f) #[] #[]) xs H k := Wi.call h

theorem Wi.new {cells : List Value} {ty : TypeId} (h : ∀ H', H.Le H' → H'.next = H.next + 1 → H'.blk H.next = some ⟨cells, ty, cells.length, false⟩ → k (pt H.next 0) H') : W.new cells ty H k :=
  h _ ⟨by simp [Heap.alloc], fun b hb => by simp only [Heap.alloc]; rw [if_neg (by omega)]⟩ rfl (by simp [Heap.alloc])

theorem Wi.box {vs : Array Value} {ty : TypeId} (h : ∀ H', H.Le H' → H'.next = H.next + 1 → H'.blk H.next = some ⟨vs.toList, ty, vs.size, false⟩ → k (pt H.next 0) H') : W.box (.agg vs) ty H k :=
  h _ ⟨by simp [Heap.alloc], fun b hb => by simp only [Heap.alloc]; rw [if_neg (by omega)]⟩ rfl (by simp [Heap.alloc])

theorem Wi.box1 {v : Value} {ty : TypeId} (hc : isCell v = true) (h : ∀ H', H.Le H' → H'.next = H.next + 1 → H'.blk H.next = some ⟨[v], ty, 1, false⟩ → k (pt H.next 0) H') : W.box v ty H k := by
  have := h (H.alloc [v] ty 1) ⟨by simp [Heap.alloc], fun b hb => by simp only [Heap.alloc]; rw [if_neg (by omega)]⟩ rfl (by simp [Heap.alloc])
  cases v <;> first | exact ⟨hc, this⟩ | (simp [isCell] at hc)

theorem Wi.lit {n : Nat} {zc cells : List Value} {ty : TypeId} {parts : List (Nat × Nat × Value)} (hf : fillA (reps n zc) parts = some cells)
    (h : ∀ H', H.Le H' → H'.next = H.next + 1 → H'.blk H.next = some ⟨cells, ty, zc.length, false⟩ → k (.slice (some (adr H.next 0)) n (2 * n)) H') : W.lit n zc ty parts H k := by
  unfold W.lit
  rw [hf]
  exact h _ ⟨by simp [Heap.alloc], fun b hb => by simp only [Heap.alloc]; rw [if_neg (by omega)]⟩ rfl (by simp [Heap.alloc])

theorem Wi.make {n : Nat} {zc : List Value} {ty : TypeId} {κ κ' : IntKind} (hn : n ≤ 1073741824)
    (h : ∀ H', H.Le H' → H'.next = H.next + 1 → H'.blk H.next = some ⟨reps n zc, ty, zc.length, false⟩ → k (.slice (some (adr H.next 0)) n (2 * n)) H') : W.make zc ty (.int κ n) (.int κ' n) H k := by
  unfold W.make
  refine ⟨by omega, by omega, by omega, ?_⟩
  exact h _ ⟨by simp [Heap.alloc], fun b hb => by simp only [Heap.alloc]; rw [if_neg (by omega)]⟩ rfl (by simp [Heap.alloc])

theorem Wi.build {zero cells : List Value} {parts : List (Nat × Nat × Value)} (hf : fillA zero parts = some cells) (h : k (.agg cells.toArray) H) : W.build zero parts H k := by
  unfold W.build
  rw [hf]; exact h

theorem adr_add (b o n : Nat) : (adr b o).add n = adr b (o + n) := by
  unfold Addr.add
  split
  · rename_i h; simp [adr, h]
  · rfl

theorem Wi.fieldAddr {b o off : Nat} (h : k (pt b (o + off)) H) : W.fieldAddr off (pt b o) H k := by
  unfold W.fieldAddr
  simp only [adr_add]
  exact h

theorem Wi.get {b o : Nat} {kb : Blk} {v : Value} (hb : H.blk b = some kb) (hv : kb.cells[o]? = some v) (h : k v H) : W.get (pt b o) H k := by
  simp only [W.get, Heap.get, hb, Option.bind_some, hv]; exact h

theorem Wi.getN {n b o : Nat} {kb : Blk} (hb : H.blk b = some kb) (hn : o + n ≤ kb.cells.length) (h : k (.agg ((kb.cells.drop o).take n).toArray) H) : W.getN n (pt b o) H k := by
  simp only [W.getN, Heap.getN, hb, Option.bind_some, if_pos hn]; exact h

/-- One block written, all else as it was. -/
structure Heap.Wr (H : Heap) (b : Nat) (kb : Blk) (H' : Heap) : Prop where
  next : H'.next = H.next
  here : H'.blk b = some kb
  off : ∀ c, c ≠ b → H'.blk c = H.blk c

theorem Wi.put {b o : Nat} {kb : Blk} {v : Value} (hb : H.blk b = some kb) (hc : isCell v = true) (hro : kb.ro = false) (hlt : o < kb.cells.length)
    (h : ∀ H', H.Wr b { kb with cells := kb.cells.set o v } H' → k undef H') : W.put (pt b o) v H k := by
  simp only [W.put, Heap.set, hb, hc, hro, Bool.not_false, Bool.and_true, hlt, decide_true, if_true]
  exact h _ ⟨rfl, by simp [Heap.setBlk, hro], fun c hc => by simp [Heap.setBlk, hc]⟩

theorem Wi.putN {n b o : Nat} {kb : Blk} {vs : Array Value} (hb : H.blk b = some kb) (hs : vs.size = n) (hc : vs.toList.all isCell = true) (hro : kb.ro = false) (hlt : o + n ≤ kb.cells.length)
    (h : ∀ H', H.Wr b { kb with cells := kb.cells.take o ++ vs.toList ++ kb.cells.drop (o + n) } H' → k undef H') : W.putN n (pt b o) (.agg vs) H k := by
  have hl : vs.toList.length = n := by simpa using hs
  simp only [W.putN, Heap.setN, hb, hc, hro, hs, hl, hlt, Bool.not_false, Bool.and_true, decide_true, if_true]
  exact h _ ⟨rfl, by simp [Heap.setBlk, hro], fun c hc => by simp [Heap.setBlk, hc]⟩

theorem Wi.len {a : Option Addr} {n e : Nat} (h : k (.int .i64 n) H) : W.len (.slice a n e) H k := h
theorem Wi.index {b o n e sz i : Nat} {κ : IntKind} (hi : i < n) (h : k (pt b (o + i * sz)) H) : W.indexAddr sz (.slice (some (adr b o)) n e) (.int κ (i : Int)) H k :=
  ⟨by omega, by omega, by rw [Int.toNat_natCast, adr_add]; exact h⟩
theorem Wi.pick {t : Bool} {a b : Value} (h : k (if t then a else b) H) : W.pick (.bool t) a b H k := h
theorem Wi.not {b : Bool} (h : k (.bool !b) H) : W.un .not (.bool b) H k := h
theorem Wi.lss {κ : IntKind} {a b : Int} (h : k (.bool (decide (a < b))) H) : W.bin .lss (.int κ a) (.int κ b) H k := by simpa [W.bin, binEval, intEval] using h
theorem Wi.geq {κ : IntKind} {a b : Int} (h : k (.bool (decide (b ≤ a))) H) : W.bin .geq (.int κ a) (.int κ b) H k := by simpa [W.bin, binEval, intEval] using h
theorem Wi.leq {κ : IntKind} {a b : Int} (h : k (.bool (decide (a ≤ b))) H) : W.bin .leq (.int κ a) (.int κ b) H k := by simpa [W.bin, binEval, intEval] using h
theorem Wi.gtr {κ : IntKind} {a b : Int} (h : k (.bool (decide (b < a))) H) : W.bin .gtr (.int κ a) (.int κ b) H k := by simpa [W.bin, binEval, intEval] using h
theorem Wi.eql {κ : IntKind} {a b : Int} (h : k (.bool (a == b)) H) : W.bin .eql (.int κ a) (.int κ b) H k := by simpa [W.bin, binEval, intEval] using h
theorem Wi.neq {κ : IntKind} {a b : Int} (h : k (.bool (a != b)) H) : W.bin .neq (.int κ a) (.int κ b) H k := by simpa [W.bin, binEval, intEval] using h

/-- A 64-bit number. -/
def I64 (n : Int) : Prop := -9223372036854775808 ≤ n ∧ n < 9223372036854775808

theorem wrap_id {n : Int} (h : I64 n) : IntKind.i64.wrap n = n := by
  unfold I64 at h
  simp only [IntKind.wrap, IntKind.signed, IntKind.bits]
  simp
  split <;> omega

theorem Wi.add {a b : Int} (hw : I64 (a + b)) (h : k (.int .i64 (a + b)) H) : W.bin .add (.int .i64 a) (.int .i64 b) H k := by
  simpa [W.bin, binEval, intEval, wrap_id hw] using h
theorem Wi.sub {a b : Int} (hw : I64 (a - b)) (h : k (.int .i64 (a - b)) H) : W.bin .sub (.int .i64 a) (.int .i64 b) H k := by
  simpa [W.bin, binEval, intEval, wrap_id hw] using h
theorem Wi.mul {a b : Int} (hw : I64 (a * b)) (h : k (.int .i64 (a * b)) H) : W.bin .mul (.int .i64 a) (.int .i64 b) H k := by
  simpa [W.bin, binEval, intEval, wrap_id hw] using h
theorem Wi.neg {a : Int} (hw : I64 (-a)) (h : k (.int .i64 (-a)) H) : W.un .neg (.int .i64 a) H k := by
  simpa [W.un, unEval, wrap_id hw] using h

theorem Wi.tru {A B : Heap → Prop} (h : A H) : W.cond (.bool true) H A B := h
theorem Wi.fls {A B : Heap → Prop} (h : B H) : W.cond (.bool false) H A B := h
theorem Wi.cond {b : Bool} {A B : Heap → Prop} (h1 : b = true → A H) (h2 : b = false → B H) : W.cond (.bool b) H A B := by
  cases b
  · exact h2 rfl
  · exact h1 rfl
theorem Wi.eqBool {a b : Bool} (h : k (.bool (a == b)) H) : W.eqBool .eql (.bool a) (.bool b) H k := h
theorem Wi.neqBool {a b : Bool} (h : k (.bool !(a == b)) H) : W.eqBool .neq (.bool a) (.bool b) H k := h
end

theorem Heap.Wr.le {H H1 H2 : Heap} {b : Nat} {kb : Blk} (h : H1.Wr b kb H2) (l : H.Le H1) (hb : H.next ≤ b) : H.Le H2 :=
  ⟨by rw [h.next]; exact l.next, fun c hc => by rw [h.off c (by omega)]; exact l.blk c hc⟩

theorem Heap.Le.at {H H' : Heap} (l : H.Le H') {b : Nat} {kb : Blk} (h : H.blk b = some kb) (hb : b < H.next) : H'.blk b = some kb := by rw [l.blk b hb]; exact h

/-! ### Readings -/

/-- How a run of cells reads: its blocks, its cells, what they stand for. -/
structure Rd (α : Type) where
  n : Nat
  rel : Heap → List Nat → List Value → α → Prop
  len : ∀ {H bs cs x}, rel H bs cs x → cs.length = n
  cell : ∀ {H bs cs x}, rel H bs cs x → cs.all isCell = true
  low : ∀ {H bs cs x}, rel H bs cs x → ∀ b ∈ bs, b < H.next
  frame : ∀ {H H' bs cs x}, rel H bs cs x → H.next ≤ H'.next → (∀ b ∈ bs, H'.blk b = H.blk b) → rel H' bs cs x

theorem Rd.le {α : Type} (r : Rd α) {H H' : Heap} {bs : List Nat} {cs : List Value} {x : α} (h : r.rel H bs cs x) (l : H.Le H') : r.rel H' bs cs x :=
  r.frame h l.next fun b hb => l.blk b (r.low h b hb)

def Rd.int : Rd Int where
  n := 1
  rel := fun _ bs cs x => bs = [] ∧ cs = [.int .i64 x] ∧ I64 x
  len := fun h => by rw [h.2.1]; rfl
  cell := fun h => by rw [h.2.1]; rfl
  low := fun h b hb => by rw [h.1] at hb; cases hb
  frame := fun h _ _ => h

def Rd.bool : Rd Bool where
  n := 1
  rel := fun _ bs cs x => bs = [] ∧ cs = [.bool x]
  len := fun h => by rw [h.2]; rfl
  cell := fun h => by rw [h.2]; rfl
  low := fun h b hb => by rw [h.1] at hb; cases hb
  frame := fun h _ _ => h

def Rd.pair {α β : Type} (r : Rd α) (s : Rd β) : Rd (α × β) where
  n := r.n + s.n
  rel := fun H bs cs x => ∃ b1 b2 c1 c2, bs = b1 ++ b2 ∧ cs = c1 ++ c2 ∧ r.rel H b1 c1 x.1 ∧ s.rel H b2 c2 x.2
  len := fun ⟨_, _, _, _, _, h, h1, h2⟩ => by rw [h, List.length_append, r.len h1, s.len h2]
  cell := fun ⟨_, _, _, _, _, h, h1, h2⟩ => by rw [h, List.all_append, r.cell h1, s.cell h2]; rfl
  low := fun ⟨_, _, _, _, h, _, h1, h2⟩ b hb => by
    rw [h, List.mem_append] at hb
    exact hb.elim (r.low h1 b) (s.low h2 b)
  frame := fun ⟨b1, b2, c1, c2, h, h', h1, h2⟩ hn hb =>
    ⟨b1, b2, c1, c2, h, h', r.frame h1 hn fun b hm => hb b (by rw [h]; exact List.mem_append_left _ hm), s.frame h2 hn fun b hm => hb b (by rw [h]; exact List.mem_append_right _ hm)⟩

/-- The cells of the i-th element. -/
def cellsAt (n : Nat) (cells : List Value) (o i : Nat) : List Value := (cells.drop (o + i * n)).take n

/-- A slice that lies in a block. -/
structure SlAt {α : Type} (r : Rd α) (H : Heap) (b o e : Nat) (kb : Blk) (fs : Nat → List Nat) (xs : List α) : Prop where
  lt : b < H.next
  blk : H.blk b = some kb
  cap : 2 * xs.length ≤ e
  small : xs.length < 9223372036854775808
  room : o + xs.length * r.n ≤ kb.cells.length
  each : ∀ i (h : i < xs.length), r.rel H (fs i) (cellsAt r.n kb.cells o i) xs[i]

def Rd.slice {α : Type} (r : Rd α) : Rd (List α) where
  n := 1
  rel := fun H bs cs xs => (xs = [] ∧ bs = [] ∧ (cs = [.slice none 0 0] ∨ cs = [.slice none 0 1] ∨ ∃ a, cs = [.slice (some a) 0 0])) ∨
    ∃ b o e kb fs, bs = b :: (List.range xs.length).flatMap fs ∧ cs = [.slice (some (adr b o)) xs.length e] ∧ SlAt r H b o e kb fs xs
  len := fun h => by rcases h with ⟨_, _, h | h | ⟨a, h⟩⟩ | ⟨b, o, e, kb, fs, _, h, _⟩ <;> rw [h] <;> rfl
  cell := fun h => by rcases h with ⟨_, _, h | h | ⟨a, h⟩⟩ | ⟨b, o, e, kb, fs, _, h, _⟩ <;> rw [h] <;> rfl
  low := fun h c hc => by
    rcases h with ⟨_, h, _⟩ | ⟨b, o, e, kb, fs, h, _, s⟩
    · rw [h] at hc; cases hc
    · rw [h, List.mem_cons, List.mem_flatMap] at hc
      rcases hc with rfl | ⟨i, hi, hc⟩
      · exact s.lt
      · exact r.low (s.each i (by simpa using hi)) c hc
  frame := fun h hn hb => by
    rcases h with h | ⟨b, o, e, kb, fs, h, h', s⟩
    · exact .inl h
    · refine .inr ⟨b, o, e, kb, fs, h, h', Nat.lt_of_lt_of_le s.lt hn, ?_, s.cap, s.small, s.room, fun i hi => r.frame (s.each i hi) hn fun c hc => hb c ?_⟩
      · rw [hb b (by rw [h]; simp)]; exact s.blk
      · rw [h, List.mem_cons, List.mem_flatMap]
        exact .inr ⟨i, by simpa using hi, hc⟩

theorem Wi.chk {g : Heap → Post → Prop} {v : Value} {H : Heap} {rest : Prop} (h1 : g H (fun v' H' => v' = v ∧ H' = H)) (h2 : rest) : W.chk g v H rest := ⟨h1, h2⟩

theorem wf_of_i64 {n : Int} (h : I64 n) : (Lit.int .i64 n).wf = true := by
  unfold I64 at h
  simp [Lit.wf, IntKind.min, IntKind.max, IntKind.signed, IntKind.bits]
  omega

theorem Wi.eqPair {a b c d : Int} {H : Heap} {k : Post} (ha : I64 a) (hb : I64 b) (hc : I64 c) (hd : I64 d) (h : k (.bool (decide (a = c) && decide (b = d))) H) : W.eqPair .eql (.agg #[.int .i64 a, .int .i64 b]) (.agg #[.int .i64 c, .int .i64 d]) H k := by
  unfold W.eqPair
  refine ⟨by rw [wf_of_i64 ha, wf_of_i64 hb, wf_of_i64 hc, wf_of_i64 hd]; rfl, ?_⟩
  exact h

end Go.Ab
/-! The laws' own helpers, once for all types: comparing, marking, telling marks. -/
namespace Go.Ab

theorem Rd.slice_val {α : Type} {r : Rd α} {H : Heap} {bs : List Nat} {cs : List Value} {xs : List α} (h : (Rd.slice r).rel H bs cs xs) : ∃ a e, cs = [.slice a xs.length e] := by
  rcases h with ⟨rfl, _, h | h | ⟨a, h⟩⟩ | ⟨b, o, e, kb, fs, _, h, _⟩
  · exact ⟨_, _, h⟩
  · exact ⟨_, _, h⟩
  · exact ⟨_, _, h⟩
  · exact ⟨_, _, h⟩

theorem Rd.slice_small {α : Type} {r : Rd α} {H : Heap} {bs : List Nat} {cs : List Value} {xs : List α} (h : (Rd.slice r).rel H bs cs xs) : xs.length < 9223372036854775808 := by
  rcases h with ⟨rfl, _, h | h | ⟨a, h⟩⟩ | ⟨b, o, e, kb, fs, _, h, s⟩
  · simp
  · simp
  · simp
  · exact s.small

/-- The i-th element. -/
theorem Rd.slice_at {α : Type} {r : Rd α} {H : Heap} {bs : List Nat} {v : Value} {xs : List α} (h : (Rd.slice r).rel H bs [v] xs) {i : Nat} (hi : i < xs.length) :
    ∃ b o e kb fs, v = .slice (some (adr b o)) xs.length e ∧ bs = b :: (List.range xs.length).flatMap fs ∧ SlAt r H b o e kb fs xs := by
  rcases h with ⟨rfl, _, _⟩ | ⟨b, o, e, kb, fs, h1, h2, s⟩
  · simp at hi
  · exact ⟨b, o, e, kb, fs, by simpa using h2, h1, s⟩

theorem cellsAt_one {cells : List Value} {o i : Nat} (h : o + i * 1 < cells.length) : cellsAt 1 cells o i = [cells[o + i * 1]] := by
  unfold cellsAt
  rw [List.drop_eq_getElem_cons h]
  rfl

theorem SlAt.in {α : Type} {r : Rd α} {H : Heap} {b o e : Nat} {kb : Blk} {fs : Nat → List Nat} {xs : List α} (s : SlAt r H b o e kb fs xs) {i : Nat} (hi : i < xs.length) : o + i * r.n + r.n ≤ kb.cells.length := by
  have h1 := s.room
  have h2 : (i + 1) * r.n ≤ xs.length * r.n := Nat.mul_le_mul_right _ hi
  rw [Nat.succ_mul] at h2
  omega

theorem SlAt.one {α : Type} {r : Rd α} (hr : r.n = 1) {H : Heap} {b o e : Nat} {kb : Blk} {fs : Nat → List Nat} {xs : List α} (s : SlAt r H b o e kb fs xs) {i : Nat} (hi : i < xs.length) :
    ∃ u, kb.cells[o + i * 1]? = some u ∧ r.rel H (fs i) [u] xs[i] := by
  have h1 := s.in hi
  have h2 := s.each i hi
  rw [hr] at h1 h2
  have h3 : o + i * 1 < kb.cells.length := by omega
  rw [cellsAt_one h3] at h2
  exact ⟨_, List.getElem?_eq_getElem h3, h2⟩

/-! ### Comparing -/

/-- How two values are compared: what follows if they differ, and if not. -/
abbrev Cmp := Value → Value → Heap → (Heap → Prop) → (Heap → Prop) → Prop

def CmpOK {α : Type} (r : Rd α) (C : Cmp) : Prop :=
  ∀ H b1 b2 u1 u2 x y A B, r.rel H b1 [u1] x → r.rel H b2 [u2] y → (x ≠ y → ∀ H', H.Le H' → A H') → (x = y → ∀ H', H.Le H' → B H') → C u1 u2 H A B

def eqSliceW (n : Nat) (C : Cmp) (Q : Post) (a b : Value) (H : Heap) : Prop :=
  W.len a H fun v1 H => W.len b H fun v2 H => W.bin .neq v1 v2 H fun v3 H => W.cond v3 H (fun H => Q (.bool false) H)
    (fun H => W.loop (S := St [n]) (fun I s H =>
      W.len a H fun v4 H => W.bin .lss s.1 v4 H fun v5 H => W.cond v5 H
        (fun H => W.indexAddr 1 a s.1 H fun v6 H => W.get v6 H fun v7 H => W.indexAddr 1 b s.1 H fun v8 H => W.get v8 H fun v9 H =>
          C v7 v9 H (fun H => Q (.bool false) H) (fun H => W.bin .add s.1 (.int .i64 1) H fun v12 H => I (v12, ()) H))
        (fun H => Q (.bool true) H)) ((.int .i64 0), ()) H)

theorem eqSlice_ok {α : Type} {r : Rd α} (hr : r.n = 1) {C : Cmp} (hC : CmpOK r C) {n : Nat} {Q : Post} {H : Heap} {b1 b2 : List Nat} {a b : Value} {xs ys : List α}
    (h1 : (Rd.slice r).rel H b1 [a] xs) (h2 : (Rd.slice r).rel H b2 [b] ys)
    (ht : xs = ys → ∀ H', H.Le H' → Q (.bool true) H') (hf : xs ≠ ys → ∀ H', H.Le H' → Q (.bool false) H') : eqSliceW n C Q a b H := by
  have hx := Rd.slice_small h1
  obtain ⟨p1, e1, g1⟩ := Rd.slice_val h1
  obtain ⟨p2, e2, g2⟩ := Rd.slice_val h2
  simp only [List.cons.injEq, and_true] at g1 g2
  unfold eqSliceW
  rw [g1, g2]
  refine Wi.len (Wi.len (Wi.neq (Wi.cond (fun hne => ?_) fun heq => ?_)))
  · exact hf (fun e => by subst e; simp at hne) H (.refl _)
  have hl : xs.length = ys.length := by
    simp only [bne_eq_false_iff_eq] at heq
    omega
  rw [← g1, ← g2]
  refine W.loop_rule (fun s H' => ∃ i : Nat, s = ((.int .i64 i), ()) ∧ i ≤ xs.length ∧ H.Le H' ∧ ∀ (j : Nat) (hj : j < i) (g1 : j < xs.length) (g2 : j < ys.length), xs[j] = ys[j])
    (fun s _ => match s.1 with | .int _ i => xs.length - i.toNat | _ => 0) ⟨0, rfl, Nat.zero_le _, .refl _, fun j hj => by omega⟩ ?_
  rintro s H1 ⟨i, rfl, hi, hle, heq'⟩
  rw [g1]
  refine Wi.len (Wi.lss (Wi.cond (fun hlt => ?_) fun hge => ?_))
  · have hix : i < xs.length := by simp only [decide_eq_true_eq] at hlt; omega
    have hiy : i < ys.length := by omega
    rw [← g1]
    obtain ⟨c1, o1, E1, k1, f1, q1, _, s1⟩ := Rd.slice_at (Rd.le _ h1 hle) hix
    obtain ⟨c2, o2, E2, k2, f2, q2, _, s2⟩ := Rd.slice_at (Rd.le _ h2 hle) hiy
    obtain ⟨u1, m1, r1⟩ := s1.one hr hix
    obtain ⟨u2, m2, r2⟩ := s2.one hr hiy
    rw [q1, q2]
    refine Wi.index hix (Wi.get s1.blk m1 (Wi.index hiy (Wi.get s2.blk m2 ?_)))
    refine hC _ _ _ _ _ _ _ _ _ r1 r2 (fun hne H2 l2 => ?_) fun he H2 l2 => ?_
    · exact hf (fun e => hne (by subst e; rfl)) H2 (hle.trans l2)
    · refine Wi.add (by unfold I64; omega) ⟨⟨i + 1, rfl, by omega, hle.trans l2, fun j hj g1 g2 => ?_⟩, ?_⟩
      · by_cases h : j < i
        · exact heq' j h g1 g2
        · have : j = i := by omega
          subst this
          exact he
      · simp only
        omega
  · have : i = xs.length := by simp only [decide_eq_false_iff_not] at hge; omega
    exact ht (List.ext_getElem hl fun j g1 g2 => heq' j (by omega) g1 g2) H1 hle

theorem CmpOK.int : CmpOK Rd.int (fun u1 u2 H A B => W.bin .neq u1 u2 H fun v H => W.cond v H A B) := by
  rintro H b1 b2 u1 u2 x y A B ⟨_, h1, _⟩ ⟨_, h2, _⟩ hA hB
  simp only [List.cons.injEq, and_true] at h1 h2
  subst h1 h2
  refine Wi.neq (Wi.cond (fun h => hA (by simpa using h) H (.refl _)) fun h => hB (by simpa using h) H (.refl _))

/-- A comparison that is a call. -/
def EqC {α : Type} (P : Program) (f : FuncId) (r : Rd α) : Prop :=
  ∀ H b1 b2 u1 u2 x y (Q : Post), r.rel H b1 [u1] x → r.rel H b2 [u2] y → (x = y → ∀ H', H.Le H' → Q (.bool true) H') → (x ≠ y → ∀ H', H.Le H' → Q (.bool false) H') → Runs P f #[u1, u2] H Q

theorem CmpOK.callQ {α : Type} {P : Program} {f : FuncId} {r : Rd α} (h : EqC P f r) :
    CmpOK r (fun u1 u2 H A B => W.callQ P (.func (.func f) #[] #[]) #[u1, u2] H fun v H => W.un .not v H fun v H => W.cond v H A B) := by
  intro H b1 b2 u1 u2 x y A B h1 h2 hA hB
  refine Wi.callQ (h _ _ _ _ _ _ _ _ h1 h2 (fun he H' l => ⟨l, Wi.not (Wi.fls (hB he H' l))⟩) fun hn H' l => ⟨l, Wi.not (Wi.tru (hA hn H' l))⟩)

theorem CmpOK.call {α : Type} {P : Program} {f : FuncId} {r : Rd α} (h : EqC P f r) :
    CmpOK r (fun u1 u2 H A B => W.call P (.func (.func f) #[] #[]) #[u1, u2] H fun v H => W.un .not v H fun v H => W.cond v H A B) := by
  intro H b1 b2 u1 u2 x y A B h1 h2 hA hB
  refine Wi.call (h _ _ _ _ _ _ _ _ h1 h2 (fun he H' l => Wi.not (Wi.fls (hB he H' l))) fun hn H' l => Wi.not (Wi.tru (hA hn H' l)))

end Go.Ab

/-! The laws' own helpers: marking and telling marks. -/
namespace Go.Ab

/-! ### What marks come to -/
section
variable {α : Type} (mk : α → Int → α) (sz : α → Nat)

def mkl : List α → Int → List α
  | [], _ => []
  | x :: xs, k => mk x k :: mkl xs (k + sz x)

def szl : List α → Nat
  | [] => 0
  | x :: xs => sz x + szl xs

variable {mk sz}
theorem szl_append (xs ys : List α) : szl sz (xs ++ ys) = szl sz xs + szl sz ys := by
  induction xs with
  | nil => simp [szl]
  | cons x xs ih => simp [szl, ih, Nat.add_assoc]

theorem mkl_append (xs ys : List α) (k : Int) : mkl mk sz (xs ++ ys) k = mkl mk sz xs k ++ mkl mk sz ys (k + szl sz xs) := by
  induction xs generalizing k with
  | nil => simp [mkl, szl]
  | cons x xs ih => simp [mkl, szl, ih, Int.add_assoc]

theorem mkl_length (xs : List α) (k : Int) : (mkl mk sz xs k).length = xs.length := by
  induction xs generalizing k with
  | nil => rfl
  | cons x xs ih => simp [mkl, ih]
end

/-- None of these blocks is one that is never written. -/
def RW (H : Heap) (bs : List Nat) : Prop := ∀ c ∈ bs, ∀ kc, H.blk c = some kc → kc.ro = false

/-- Marks have been put. -/
structure Marked {α : Type} (r : Rd α) (H : Heap) (bs : List Nat) (cs : List Value) (y : α) (H' : Heap) : Prop where
  next : H.next ≤ H'.next
  rel : r.rel H' bs cs y
  off : ∀ c, c < H.next → c ∉ bs → H'.blk c = H.blk c
  rw : RW H' bs

/-- Marking by a call. -/
def MarkC {α : Type} (P : Program) (f : FuncId) (r : Rd α) (mk : α → Int → α) (sz : α → Nat) : Prop :=
  ∀ H bs v x (k : Int) (Q : Post), r.rel H bs [v] x → bs.Nodup → RW H bs → 0 ≤ k → k + sz x < 4611686018427387904 →
    (∀ H', Marked r H bs [v] (mk x k) H' → Q (.int .i64 (k + sz x)) H') → Runs P f #[v, .int .i64 k] H Q

abbrev Mrk := Value → Value → Heap → Post → Prop

/-- Marking an element where it lies. -/
def MarkE {α : Type} (r : Rd α) (mk : α → Int → α) (sz : α → Nat) (M : Mrk) : Prop :=
  ∀ H b o kb bs x (k : Int) (K : Post), H.blk b = some kb → b < H.next → kb.ro = false → o + r.n ≤ kb.cells.length → r.rel H bs ((kb.cells.drop o).take r.n) x → b ∉ bs → bs.Nodup → RW H bs →
    0 ≤ k → k + sz x < 4611686018427387904 →
    (∀ H' cs', H.next ≤ H'.next → H'.blk b = some { kb with cells := kb.cells.take o ++ cs' ++ kb.cells.drop (o + r.n) } → r.rel H' bs cs' (mk x k) →
      (∀ c, c < H.next → c ≠ b → c ∉ bs → H'.blk c = H.blk c) → RW H' bs → K (.int .i64 (k + sz x)) H') → M (pt b o) (.int .i64 k) H K

theorem MarkE.int : MarkE Rd.int (fun _ k => k) (fun _ => 1) (fun p k H K => W.put p k H fun _ H => W.bin .add k (.int .i64 1) H K) := by
  intro H b o kb bs x k K hb hlt hro hl hr hbs _ _ hk hs hK
  obtain ⟨rfl, _, _⟩ := hr
  refine Wi.put hb rfl hro (by simp only [Rd.int] at hl; omega) fun H' w => ?_
  have hs' : k + 1 < 4611686018427387904 := hs
  have hk' : I64 k := by unfold I64; omega
  refine Wi.add (by unfold I64; omega) (hK H' [.int .i64 k] (by rw [w.next]; exact Nat.le_refl _) ?_ ⟨rfl, rfl, hk'⟩ (fun c _ hc _ => w.off c hc) (fun c hc => by cases hc))
  rw [w.here]
  congr 2
  simp only [Rd.int] at hl ⊢
  rw [List.set_eq_take_append_cons_drop, if_pos (by omega)]
  simp

theorem cells_put {n : Nat} {cells cs : List Value} {o i j : Nat} (hc : cs.length = n) (hl : o + i * n + n ≤ cells.length) :
    cellsAt n (cells.take (o + i * n) ++ cs ++ cells.drop (o + i * n + n)) o j = if j = i then cs else cellsAt n cells o j := by
  have hlt : (cells.take (o + i * n)).length = o + i * n := by simp; omega
  split
  · rename_i h
    subst h
    unfold cellsAt
    rw [List.append_assoc, List.drop_append_of_le_length (by omega), List.drop_of_length_le (by omega), List.nil_append, List.take_append_of_le_length (by omega), List.take_of_length_le (by omega)]
  · rename_i h
    unfold cellsAt
    apply List.ext_getElem?
    intro m
    rw [List.getElem?_take, List.getElem?_take]
    split
    · rename_i hm
      rw [List.getElem?_drop, List.getElem?_drop, List.append_assoc]
      rcases Nat.lt_or_gt_of_ne h with hji | hji
      · have : (j + 1) * n ≤ i * n := Nat.mul_le_mul_right _ hji
        rw [Nat.succ_mul] at this
        rw [List.getElem?_append_left (by omega), List.getElem?_take, if_pos (by omega)]
      · have : (i + 1) * n ≤ j * n := Nat.mul_le_mul_right _ hji
        rw [Nat.succ_mul] at this
        rw [List.getElem?_append_right (by omega), List.getElem?_append_right (by omega), List.getElem?_drop, hlt, hc]
        congr 1
        omega
    · rfl

theorem flat_nodup {fs : Nat → List Nat} {n : Nat} (h : ((List.range n).flatMap fs).Nodup) {i j : Nat} (hi : i < n) (hj : j < n) : (fs i).Nodup ∧ (i ≠ j → ∀ c ∈ fs i, c ∉ fs j) := by
  have h' := List.pairwise_flatMap.1 h
  refine ⟨h'.1 i (by simpa using hi), fun hne c hc hcj => ?_⟩
  have hp := List.pairwise_iff_getElem.1 h'.2
  rcases Nat.lt_or_gt_of_ne hne with h1 | h1
  · have := hp i j (by simpa using hi) (by simpa using hj) h1
    simp only [List.getElem_range] at this
    exact this c hc c hcj rfl
  · have := hp j i (by simpa using hj) (by simpa using hi) h1
    simp only [List.getElem_range] at this
    exact this c hcj c hc rfl

def markSliceW (n1 n2 sz : Nat) (M : Mrk) (Q : Post) (a k : Value) (H : Heap) : Prop :=
  W.loop (S := St [n1, n2]) (fun I s H => W.len a H fun v1 H => W.bin .lss s.2.1 v1 H fun v2 H => W.cond v2 H
    (fun H => W.indexAddr sz a s.2.1 H fun v3 H => M v3 s.1 H (fun k' H => W.bin .add s.2.1 (.int .i64 1) H fun v5 H => I (k', v5, ()) H))
    (fun H => Q s.1 H)) (k, .int .i64 0, ()) H

theorem markSlice_ok {α : Type} {r : Rd α} {mk : α → Int → α} {sz : α → Nat} {M : Mrk} (hM : MarkE r mk sz M) {n1 n2 : Nat} {Q : Post} {H : Heap} {bs : List Nat} {a : Value} {xs : List α} {k : Int}
    (h : (Rd.slice r).rel H bs [a] xs) (hnd : bs.Nodup) (hrw : RW H bs) (hk : 0 ≤ k) (hs : k + szl sz xs < 4611686018427387904)
    (hQ : ∀ H', Marked (Rd.slice r) H bs [a] (mkl mk sz xs k) H' → Q (.int .i64 (k + szl sz xs)) H') : markSliceW n1 n2 r.n M Q a (.int .i64 k) H := by
  have hx := Rd.slice_small h
  unfold markSliceW
  refine W.loop_rule (fun s H' => ∃ zs ws, xs = zs ++ ws ∧ s = (.int .i64 (k + szl sz zs), .int .i64 zs.length, ()) ∧ Marked (Rd.slice r) H bs [a] (mkl mk sz zs k ++ ws) H')
    (fun s _ => match s.2.1 with | .int _ i => xs.length - i.toNat | _ => 0) ⟨[], xs, rfl, by simp [szl]; rfl, by simp [mkl]; exact ⟨Nat.le_refl _, h, fun _ _ _ => rfl, hrw⟩⟩ ?_
  rintro s H1 ⟨zs, ws, hxs, rfl, m⟩
  obtain ⟨p1, e1, g1⟩ := Rd.slice_val m.rel
  simp only [List.cons.injEq, and_true] at g1
  have hlen : (mkl mk sz zs k ++ ws).length = xs.length := by rw [hxs]; simp [mkl_length]
  rw [g1]
  simp only
  refine Wi.len (Wi.lss (Wi.cond (fun hlt => ?_) fun hge => ?_))
  · have hz : zs.length < xs.length := by
      simp only [decide_eq_true_eq, hlen] at hlt; omega
    cases ws with
    | nil => rw [hxs] at hz; simp at hz
    | cons x ws =>
      obtain ⟨b, o, e, kb, fs, q1, q2, s⟩ := Rd.slice_at m.rel (i := zs.length) (by rw [hlen]; exact hz)
      rw [← g1, q1]
      have hin := s.in (i := zs.length) (by rw [hlen]; exact hz)
      have hel := s.each zs.length (by rw [hlen]; exact hz)
      have hget : (mkl mk sz zs k ++ x :: ws)[zs.length]'(by rw [hlen]; exact hz) = x := by
        rw [List.getElem_append_right (by rw [mkl_length]; exact Nat.le_refl _)]
        simp [mkl_length]
      rw [hget] at hel
      have hbnd : bs.Nodup := hnd
      rw [q2] at hbnd
      have hbn := List.nodup_cons.1 hbnd
      have hfl : ∀ j, j < xs.length → (fs j).Nodup ∧ (∀ c ∈ fs j, c ∈ bs) ∧ b ∉ fs j ∧ (j ≠ zs.length → ∀ c ∈ fs j, c ∉ fs zs.length) := fun j hj => by
        have hj' : j < (mkl mk sz zs k ++ x :: ws).length := by rw [hlen]; exact hj
        have hz' : zs.length < (mkl mk sz zs k ++ x :: ws).length := by rw [hlen]; exact hz
        have hmem : ∀ c ∈ fs j, c ∈ (List.range (mkl mk sz zs k ++ x :: ws).length).flatMap fs := fun c hc => List.mem_flatMap.2 ⟨j, by simpa using hj', hc⟩
        obtain ⟨f1, f2⟩ := flat_nodup hbn.2 hj' hz'
        exact ⟨f1, fun c hc => by rw [q2]; exact List.mem_cons_of_mem _ (hmem c hc), fun hc => hbn.1 (hmem b hc), f2⟩
      obtain ⟨f1, f2, f3, _⟩ := hfl zs.length hz
      have hszs : szl sz xs = szl sz zs + (sz x + szl sz ws) := by rw [hxs, szl_append]; rfl
      refine Wi.index (by rw [hlen]; exact hz) (hM H1 b _ kb (fs zs.length) x _ _ s.blk s.lt (m.rw b (by rw [q2]; simp) kb s.blk) hin hel f3 f1 (fun c hc => m.rw c (f2 c hc)) (by omega) (by omega) ?_)
      intro H2 cs' hn hb2 hr2 hoff hrw2
      refine Wi.add (by unfold I64; omega) ⟨⟨zs ++ [x], ws, by rw [hxs]; simp, ?_, ?_⟩, ?_⟩
      · simp [szl_append, szl, Int.add_assoc]
        rfl
      · have hmk : mkl mk sz (zs ++ [x]) k ++ ws = (mkl mk sz zs k ++ x :: ws).set zs.length (mk x (k + szl sz zs)) := by
          rw [mkl_append, List.set_append_right _ _ (by rw [mkl_length]; exact Nat.le_refl _)]
          simp [mkl, mkl_length]
        rw [hmk]
        have hcl : cs'.length = r.n := r.len hr2
        refine ⟨Nat.le_trans m.next hn, ?_, fun c hc hcb => ?_, ?_⟩
        · refine .inr ⟨b, o, e, _, fs, by rw [List.length_set]; exact q2, by rw [List.length_set]; first | done | rw [q1], ⟨Nat.lt_of_lt_of_le s.lt hn, hb2, by rw [List.length_set]; exact s.cap, by rw [List.length_set]; exact s.small, ?_, fun j hj => ?_⟩⟩
          · rw [List.length_set]
            have hL : (kb.cells.take (o + zs.length * r.n) ++ cs' ++ kb.cells.drop (o + zs.length * r.n + r.n)).length = kb.cells.length := by
              simp only [List.length_append, List.length_take, List.length_drop, hcl]
              omega
            simp only [hL]
            exact s.room
          · rw [List.length_set] at hj
            rw [cells_put hcl hin]
            by_cases hji : j = zs.length
            · subst hji
              rw [if_pos rfl]
              simp only [List.getElem_set_self]
              exact hr2
            · rw [if_neg hji]
              rw [List.getElem_set_ne (fun h => hji h.symm)]
              refine r.frame (s.each j hj) hn fun c hc => ?_
              obtain ⟨_, _, g3, g4⟩ := hfl j (by rw [← hlen]; exact hj)
              exact hoff c (r.low (s.each j hj) c hc) (fun h => g3 (h ▸ hc)) (g4 hji c hc)
        · rw [← m.off c hc hcb]
          refine hoff c (Nat.lt_of_lt_of_le hc m.next) (fun h => hcb (by rw [h, q2]; simp)) fun h => hcb (f2 c h)
        · intro c hc kc hkc
          by_cases hcb : c = b
          · subst hcb
            rw [hb2] at hkc
            cases hkc
            exact m.rw c hc kb s.blk
          · by_cases hcf : c ∈ fs zs.length
            · exact hrw2 c hcf kc hkc
            · rw [hoff c ((Rd.slice r).low m.rel c hc) hcb hcf] at hkc
              exact m.rw c hc kc hkc
      · simp only
        simp
        omega
  · have hz : zs.length = xs.length := by
      have : zs.length ≤ xs.length := by rw [hxs]; simp
      simp only [decide_eq_false_iff_not, hlen] at hge
      omega
    have : ws = [] := by
      rw [hxs] at hz
      simp at hz
      exact hz
    subst this
    rw [List.append_nil] at hxs m
    subst hxs
    exact hQ H1 m

end Go.Ab

/-! The laws' own helpers: marks by calls, telling marks. -/
namespace Go.Ab

theorem one_cell {cells : List Value} {o : Nat} {r : Nat} (hr : r = 1) (hl : o + r ≤ cells.length) : ∃ u, cells[o]? = some u ∧ (cells.drop o).take r = [u] := by
  subst hr
  have h : o < cells.length := by omega
  refine ⟨cells[o], List.getElem?_eq_getElem h, ?_⟩
  rw [List.drop_eq_getElem_cons h]
  rfl

theorem MarkE.call {α : Type} {P : Program} {f : FuncId} {r : Rd α} {mk : α → Int → α} {sz : α → Nat} (hr : r.n = 1) (h : MarkC P f r mk sz) :
    MarkE r mk sz (fun p k H K => W.get p H fun v H => W.call P (.func (.func f) #[] #[]) #[v, k] H K) := by
  intro H b o kb bs x k K hb hlt hro hl hrel hbs hnd hrw hk hs hK
  obtain ⟨u, hu, hd⟩ := one_cell hr hl
  rw [hd] at hrel
  refine Wi.get hb hu (Wi.call (h _ _ _ _ _ _ hrel hnd hrw hk hs fun H' m => ?_))
  refine hK H' [u] m.next ?_ m.rel (fun c hc _ hcb => m.off c hc hcb) m.rw
  rw [m.off b hlt hbs, hb]
  congr 2
  have : (kb.cells.take o ++ [u] ++ kb.cells.drop (o + r.n)) = kb.cells := by
    rw [← hd, List.append_assoc, ← List.drop_drop, List.take_append_drop, List.take_append_drop]
  rw [this]

/-- Marking a slice by a function whose text is this. -/
theorem MarkC.slice {α : Type} {P : Program} {f : FuncId} {r : Rd α} {mk : α → Int → α} {sz : α → Nat} {M : Mrk} {n1 n2 n : Nat} (hn : r.n = n) (hM : MarkE r mk sz M)
    (enter : ∀ (Q : Post) (a k : Value) (H : Heap), markSliceW n1 n2 n M Q a k H → Runs P f #[a, k] H Q) : MarkC P f (Rd.slice r) (mkl mk sz) (szl sz) := by
  subst hn
  intro H bs v x k Q h hnd hrw hk hs hQ
  exact enter _ _ _ _ (markSlice_ok hM h hnd hrw hk hs hQ)

theorem EqC.slice {α : Type} {P : Program} {f : FuncId} {r : Rd α} (hr : r.n = 1) {C : Cmp} (hC : CmpOK r C) {n : Nat}
    (enter : ∀ (Q : Post) (a b : Value) (H : Heap), eqSliceW n C Q a b H → Runs P f #[a, b] H Q) : EqC P f (Rd.slice r) := by
  intro H b1 b2 u1 u2 x y Q h1 h2 ht hf
  exact enter _ _ _ _ (eqSlice_ok hr hC h1 h2 ht hf)

/-! ### Telling marks -/

def HeldC {α : Type} (P : Program) (f : FuncId) (r : Rd α) (mk : α → Int → α) (sz : α → Nat) : Prop :=
  ∀ H bs v x (k : Int) (Q : Post), r.rel H bs [v] (mk x k) → 0 ≤ k → k + sz x < 4611686018427387904 → (∀ H', H.Le H' → Q (.int .i64 (k + sz x)) H') → Runs P f #[v, .int .i64 k] H Q

abbrev Hld := Value → Value → Heap → (Heap → Prop) → Post → Prop

def HeldE {α : Type} (r : Rd α) (mk : α → Int → α) (sz : α → Nat) (M : Hld) : Prop :=
  ∀ H b o kb bs x (k : Int) A (K : Post), H.blk b = some kb → b < H.next → o + r.n ≤ kb.cells.length → r.rel H bs ((kb.cells.drop o).take r.n) (mk x k) → 0 ≤ k → k + sz x < 4611686018427387904 →
    (∀ H', H.Le H' → K (.int .i64 (k + sz x)) H') → M (pt b o) (.int .i64 k) H A K

theorem HeldE.int : HeldE Rd.int (fun _ k => k) (fun _ => 1) (fun p k H A K => W.get p H fun v H => W.bin .neq v k H fun v H => W.cond v H A fun H => W.bin .add k (.int .i64 1) H K) := by
  intro H b o kb bs x k A K hb hlt hl hr hk hs hK
  obtain ⟨u, hu, hd⟩ := one_cell (r := Rd.int.n) rfl hl
  rw [hd] at hr
  obtain ⟨_, h2, _⟩ := hr
  simp only [List.cons.injEq, and_true] at h2
  subst h2
  have hs' : k + 1 < 4611686018427387904 := hs
  refine Wi.get hb hu (Wi.neq ?_)
  rw [show (k != k) = false by simp]
  exact Wi.fls (Wi.add (by unfold I64; omega) (hK H (.refl _)))

theorem HeldE.call {α : Type} {P : Program} {f : FuncId} {r : Rd α} {mk : α → Int → α} {sz : α → Nat} (hr : r.n = 1) (h : HeldC P f r mk sz) :
    HeldE r mk sz (fun p k H A K => W.get p H fun v H => W.call P (.func (.func f) #[] #[]) #[v, k] H fun v H => W.bin .lss v (.int .i64 0) H fun u H => W.cond u H A (K v)) := by
  intro H b o kb bs x k A K hb hlt hl hrel hk hs hK
  obtain ⟨u, hu, hd⟩ := one_cell hr hl
  rw [hd] at hrel
  refine Wi.get hb hu (Wi.call (h _ _ _ _ _ _ hrel hk hs fun H' l => Wi.lss ?_))
  rw [show decide (k + (sz x : Int) < 0) = false by simp; omega]
  exact Wi.fls (hK H' l)

def heldSliceW (n1 n2 sz : Nat) (M : Hld) (Q : Post) (a k : Value) (H : Heap) : Prop :=
  W.loop (S := St [n1, n2]) (fun I s H => W.len a H fun v1 H => W.bin .lss s.2.1 v1 H fun v2 H => W.cond v2 H
    (fun H => W.indexAddr sz a s.2.1 H fun v3 H => M v3 s.1 H (fun H => Q (.int .i64 (-1)) H) (fun k' H => W.bin .add s.2.1 (.int .i64 1) H fun v5 H => I (k', v5, ()) H))
    (fun H => Q s.1 H)) (k, .int .i64 0, ()) H

theorem heldSlice_ok {α : Type} {r : Rd α} {mk : α → Int → α} {sz : α → Nat} {M : Hld} (hM : HeldE r mk sz M) {n1 n2 : Nat} {Q : Post} {H : Heap} {bs : List Nat} {a : Value} {xs : List α} {k : Int}
    (h : (Rd.slice r).rel H bs [a] (mkl mk sz xs k)) (hk : 0 ≤ k) (hs : k + szl sz xs < 4611686018427387904)
    (hQ : ∀ H', H.Le H' → Q (.int .i64 (k + szl sz xs)) H') : heldSliceW n1 n2 r.n M Q a (.int .i64 k) H := by
  have hx := Rd.slice_small h
  rw [mkl_length] at hx
  unfold heldSliceW
  refine W.loop_rule (fun s H' => ∃ zs ws, xs = zs ++ ws ∧ s = (.int .i64 (k + szl sz zs), .int .i64 zs.length, ()) ∧ H.Le H')
    (fun s _ => match s.2.1 with | .int _ i => xs.length - i.toNat | _ => 0) ⟨[], xs, rfl, by simp [szl]; rfl, .refl _⟩ ?_
  rintro s H1 ⟨zs, ws, hxs, rfl, m⟩
  have hH := Rd.le _ h m
  obtain ⟨p1, e1, g1⟩ := Rd.slice_val hH
  simp only [List.cons.injEq, and_true, mkl_length] at g1
  rw [g1]
  simp only
  refine Wi.len (Wi.lss (Wi.cond (fun hlt => ?_) fun hge => ?_))
  · have hz : zs.length < xs.length := by
      simp only [decide_eq_true_eq] at hlt; omega
    cases ws with
    | nil => rw [hxs] at hz; simp at hz
    | cons x ws =>
      obtain ⟨b, o, e, kb, fs, q1, q2, s⟩ := Rd.slice_at hH (i := zs.length) (by rw [mkl_length]; exact hz)
      rw [mkl_length] at q1
      rw [← g1, q1]
      have hin := s.in (i := zs.length) (by rw [mkl_length]; exact hz)
      have hel := s.each zs.length (by rw [mkl_length]; exact hz)
      have hget : (mkl mk sz xs k)[zs.length]'(by rw [mkl_length]; exact hz) = mk x (k + szl sz zs) := by
        simp only [hxs, mkl_append]
        rw [List.getElem_append_right (by rw [mkl_length]; exact Nat.le_refl _)]
        simp [mkl_length, mkl]
      rw [hget] at hel
      have hszs : szl sz xs = szl sz zs + (sz x + szl sz ws) := by rw [hxs, szl_append]; rfl
      refine Wi.index hz (hM H1 b _ kb (fs zs.length) x _ _ _ s.blk s.lt hin hel (by omega) (by omega) ?_)
      intro H2 l2
      refine Wi.add (by unfold I64; omega) ⟨⟨zs ++ [x], ws, by rw [hxs]; simp, ?_, m.trans l2⟩, ?_⟩
      · simp [szl_append, szl, Int.add_assoc]
        rfl
      · simp only
        simp
        omega
  · have hz : zs.length = xs.length := by
      have : zs.length ≤ xs.length := by rw [hxs]; simp
      simp only [decide_eq_false_iff_not] at hge
      omega
    have : ws = [] := by
      rw [hxs] at hz
      simp at hz
      exact hz
    subst this
    rw [List.append_nil] at hxs
    subst hxs
    exact hQ H1 m

theorem HeldC.slice {α : Type} {P : Program} {f : FuncId} {r : Rd α} {mk : α → Int → α} {sz : α → Nat} {M : Hld} {n1 n2 n : Nat} (hn : r.n = n) (hM : HeldE r mk sz M)
    (enter : ∀ (Q : Post) (a k : Value) (H : Heap), heldSliceW n1 n2 n M Q a k H → Runs P f #[a, k] H Q) : HeldC P f (Rd.slice r) (mkl mk sz) (szl sz) := by
  subst hn
  intro H bs v x k Q h hk hs hQ
  exact enter _ _ _ _ (heldSlice_ok hM h hk hs hQ)

/-! ### Structs: given as their cells together -/

def EqA {α : Type} (P : Program) (f : FuncId) (r : Rd α) : Prop :=
  ∀ H b1 b2 c1 c2 x y (Q : Post), r.rel H b1 c1 x → r.rel H b2 c2 y → (x = y → ∀ H', H.Le H' → Q (.bool true) H') → (x ≠ y → ∀ H', H.Le H' → Q (.bool false) H') → Runs P f #[.agg c1.toArray, .agg c2.toArray] H Q

def MarkA {α : Type} (P : Program) (f : FuncId) (r : Rd α) (mk : α → Int → α) (sz : α → Nat) : Prop :=
  ∀ H bs cs x (k : Int) (Q : Post), r.rel H bs cs x → bs.Nodup → RW H bs → 0 ≤ k → k + sz x < 4611686018427387904 →
    (∀ H', Marked r H bs cs (mk x k) H' → Q (.int .i64 (k + sz x)) H') → Runs P f #[.agg cs.toArray, .int .i64 k] H Q

def HeldA {α : Type} (P : Program) (f : FuncId) (r : Rd α) (mk : α → Int → α) (sz : α → Nat) : Prop :=
  ∀ H bs cs x (k : Int) (Q : Post), r.rel H bs cs (mk x k) → 0 ≤ k → k + sz x < 4611686018427387904 → (∀ H', H.Le H' → Q (.int .i64 (k + sz x)) H') → Runs P f #[.agg cs.toArray, .int .i64 k] H Q

section
variable {α β : Type} (mk : α → Int → α) (sz : α → Nat) (mk' : β → Int → β) (sz' : β → Nat)
def mkp (x : α × β) (k : Int) : α × β := (mk x.1 k, mk' x.2 (k + sz x.1))
def szp (x : α × β) : Nat := sz x.1 + sz' x.2
end

/-- What is not marked. -/
def mk0 {α : Type} (x : α) (_ : Int) : α := x
def sz0 {α : Type} (_ : α) : Nat := 0

theorem RW.le {H H' : Heap} {bs : List Nat} (h : RW H bs) (l : H.Le H') (low : ∀ b ∈ bs, b < H.next) : RW H' bs := fun c hc kc hk => by
  rw [l.blk c (low c hc)] at hk
  exact h c hc kc hk

theorem RW.left {H : Heap} {a b : List Nat} (h : RW H (a ++ b)) : RW H a := fun c hc => h c (List.mem_append_left _ hc)
theorem RW.right {H : Heap} {a b : List Nat} (h : RW H (a ++ b)) : RW H b := fun c hc => h c (List.mem_append_right _ hc)

end Go.Ab

/-! The laws' own helpers on structs: comparing, marking, telling marks. -/
namespace Go.Ab

/-- The value of some cells: one alone, or all together. -/
def valOf (agg : Bool) (cs : List Value) : Value := match agg with | true => .agg cs.toArray | false => cs.headD undef

def getW (agg : Bool) (n : Nat) (p : Value) (H : Heap) (k : Post) : Prop := match agg with | true => W.getN n p H k | false => W.get p H k

theorem getW_ok {agg : Bool} {n b o : Nat} {kb : Blk} {H : Heap} {k : Post} (hn : agg = false → n = 1) (hb : H.blk b = some kb) (hl : o + n ≤ kb.cells.length) (h : k (valOf agg ((kb.cells.drop o).take n)) H) : getW agg n (pt b o) H k := by
  cases agg with
  | true => exact Wi.getN hb hl h
  | false =>
    obtain ⟨u, h1, h2⟩ := one_cell (hn rfl) hl
    rw [h2] at h
    exact Wi.get hb h1 h

/-- A field of a struct, compared. -/
structure Fld where
  off : Nat
  n : Nat
  agg : Bool
  C : Cmp

def CmpV {α : Type} (agg : Bool) (r : Rd α) (C : Cmp) : Prop :=
  ∀ H b1 b2 c1 c2 x y A B, r.rel H b1 c1 x → r.rel H b2 c2 y → (x ≠ y → ∀ H', H.Le H' → A H') → (x = y → ∀ H', H.Le H' → B H') → C (valOf agg c1) (valOf agg c2) H A B

theorem CmpV.one {α : Type} {r : Rd α} {C : Cmp} (hr : r.n = 1) (h : CmpOK r C) : CmpV false r C := by
  intro H b1 b2 c1 c2 x y A B h1 h2 hA hB
  have l1 := r.len h1
  have l2 := r.len h2
  rw [hr] at l1 l2
  obtain ⟨u1, rfl⟩ := List.length_eq_one_iff.1 l1
  obtain ⟨u2, rfl⟩ := List.length_eq_one_iff.1 l2
  exact h _ _ _ _ _ _ _ _ _ h1 h2 hA hB

theorem CmpV.call {α : Type} {P : Program} {f : FuncId} {r : Rd α} (h : EqA P f r) :
    CmpV true r (fun u1 u2 H A B => W.call P (.func (.func f) #[] #[]) #[u1, u2] H fun v H => W.un .not v H fun v H => W.cond v H A B) := by
  intro H b1 b2 c1 c2 x y A B h1 h2 hA hB
  refine Wi.call (h _ _ _ _ _ _ _ _ h1 h2 (fun he H' l => Wi.not (Wi.fls (hB he H' l))) fun hn H' l => Wi.not (Wi.tru (hA hn H' l)))

inductive FlOK : Nat → {α : Type} → Rd α → List Fld → Prop
  | one {α : Type} {o : Nat} {r : Rd α} {agg : Bool} {C : Cmp} {n : Nat} (hn : r.n = n) (ha : agg = false → n = 1) (h : CmpV agg r C) : FlOK o r [⟨o, n, agg, C⟩]
  | pair {α β : Type} {o o' : Nat} {r : Rd α} {s : Rd β} {fs gs : List Fld} (h1 : FlOK o r fs) (ho : o + r.n = o') (h2 : FlOK o' s gs) : FlOK o (r.pair s) (fs ++ gs)

def eqFields (Q : Heap → Prop) (T : Heap → Prop) (p q : Value) : List Fld → Heap → Prop
  | [], H => T H
  | f :: fs, H => W.fieldAddr f.off p H fun v3 H => getW f.agg f.n v3 H fun v4 H => W.fieldAddr f.off q H fun v5 H => getW f.agg f.n v5 H fun v6 H => f.C v4 v6 H Q (fun H => eqFields Q T p q fs H)

theorem eqFields_append {Q T : Heap → Prop} {p q : Value} (gs : List Fld) : ∀ (fs : List Fld), eqFields Q T p q (fs ++ gs) = eqFields Q (eqFields Q T p q gs) p q fs
  | [] => by funext H; simp [eqFields]
  | f :: fs => by
    have ih := eqFields_append (Q := Q) (T := T) (p := p) (q := q) gs fs
    funext H
    simp only [List.cons_append, eqFields, ih]

theorem Wi.fieldAddr0 {b off : Nat} {H : Heap} {k : Post} (h : k (pt b off) H) : W.fieldAddr off (pt b 0) H k := Wi.fieldAddr (by rw [Nat.zero_add]; exact h)

theorem Rd.pair_split {α β : Type} {r : Rd α} {s : Rd β} {H : Heap} {bs : List Nat} {cells : List Value} {o : Nat} {x : α × β} (h : (r.pair s).rel H bs ((cells.drop o).take (r.n + s.n)) x) :
    ∃ b1 b2, bs = b1 ++ b2 ∧ r.rel H b1 ((cells.drop o).take r.n) x.1 ∧ s.rel H b2 ((cells.drop (o + r.n)).take s.n) x.2 := by
  obtain ⟨b1, b2, c1, c2, hb, hc, h1, h2⟩ := h
  have hl : r.n = c1.length := (r.len h1).symm
  refine ⟨b1, b2, hb, ?_, ?_⟩
  · have : (cells.drop o).take r.n = c1 := by
      have := congrArg (List.take r.n) hc
      rw [List.take_take, Nat.min_eq_left (by omega)] at this
      rw [this, hl, List.take_left]
    rw [this]; exact h1
  · have : (cells.drop (o + r.n)).take s.n = c2 := by
      have := congrArg (List.drop r.n) hc
      rw [List.drop_take, List.drop_drop, Nat.add_sub_cancel_left] at this
      rw [this, hl, List.drop_left]
    rw [this]; exact h2

theorem eqFields_ok {o : Nat} {α : Type} {r : Rd α} {fs : List Fld} (h : FlOK o r fs) : ∀ {H : Heap} {b1 b2 : Nat} {k1 k2 : Blk} {f1 f2 : List Nat} {x y : α} {Q T : Heap → Prop},
    H.blk b1 = some k1 → b1 < H.next → o + r.n ≤ k1.cells.length → r.rel H f1 ((k1.cells.drop o).take r.n) x →
    H.blk b2 = some k2 → b2 < H.next → o + r.n ≤ k2.cells.length → r.rel H f2 ((k2.cells.drop o).take r.n) y →
    (x ≠ y → ∀ H', H.Le H' → Q H') → (x = y → ∀ H', H.Le H' → T H') → eqFields Q T (pt b1 0) (pt b2 0) fs H := by
  induction h with
  | one hn ha h =>
    subst hn
    intro H b1 b2 k1 k2 f1 f2 x y Q T g1 _ g3 g4 g5 _ g7 g8 hQ hT
    exact Wi.fieldAddr0 (getW_ok ha g1 g3 (Wi.fieldAddr0 (getW_ok ha g5 g7 (h _ _ _ _ _ _ _ _ _ g4 g8 hQ hT))))
  | pair h1 ho h2 ih1 ih2 =>
    subst ho
    rename_i r s fs gs
    intro H b1 b2 k1 k2 f1 f2 x y Q T g1 g2 g3 g4 g5 g6 g7 g8 hQ hT
    simp only [Rd.pair] at g3 g7
    obtain ⟨p1, p2, _, q1, q2⟩ := Rd.pair_split g4
    obtain ⟨p1', p2', _, q1', q2'⟩ := Rd.pair_split g8
    rw [eqFields_append]
    refine ih1 g1 g2 (by omega) q1 g5 g6 (by omega) q1' (fun hne H' l => hQ (fun e => hne (by rw [e])) H' l) fun he H' l => ?_
    refine ih2 (l.at g1 g2) (Nat.lt_of_lt_of_le g2 l.next) (by omega) (Rd.le _ q2 l) (l.at g5 g6) (Nat.lt_of_lt_of_le g6 l.next) (by omega) (Rd.le _ q2' l)
      (fun hne H2 l2 => hQ (fun e => hne (by rw [e])) H2 (l.trans l2)) fun he2 H2 l2 => hT (Prod.ext he he2) H2 (l.trans l2)

def eqStructW (ty : TypeId) (fs : List Fld) (Q : Post) (a b : Value) (H : Heap) : Prop :=
  W.box a ty H fun p H => W.box b ty H fun q H => eqFields (fun H => Q (.bool false) H) (fun H => Q (.bool true) H) p q fs H

theorem EqA.struct {α : Type} {P : Program} {f : FuncId} {r : Rd α} {ty : TypeId} {fs : List Fld} (h : FlOK 0 r fs)
    (enter : ∀ (Q : Post) (a b : Value) (H : Heap), eqStructW ty fs Q a b H → Runs P f #[a, b] H Q) : EqA P f r := by
  intro H b1 b2 c1 c2 x y Q h1 h2 ht hf
  refine enter _ _ _ _ (Wi.box fun H1 l1 n1 k1 => Wi.box fun H2 l2 n2 k2 => ?_)
  have e1 : c1.take r.n = c1 := List.take_of_length_le (by rw [r.len h1]; exact Nat.le_refl _)
  have e2 : c2.take r.n = c2 := List.take_of_length_le (by rw [r.len h2]; exact Nat.le_refl _)
  refine eqFields_ok h (l2.at k1 (by omega)) (by omega) (by simp [r.len h1]) (by simpa [e1] using Rd.le _ h1 (l1.trans l2)) k2 (by omega) (by simp [r.len h2]) (by simpa [e2] using Rd.le _ h2 (l1.trans l2))
    (fun hne H' l => hf hne H' ((l1.trans l2).trans l)) fun he H' l => ht he H' ((l1.trans l2).trans l)

/-! ### Marking -/

structure MFld where
  off : Nat
  n : Nat
  agg : Bool
  M : Mrk

def MarkV {α : Type} (agg : Bool) (r : Rd α) (mk : α → Int → α) (sz : α → Nat) (M : Mrk) : Prop :=
  ∀ H bs cs x (k : Int) (K : Post), r.rel H bs cs x → bs.Nodup → RW H bs → 0 ≤ k → k + sz x < 4611686018427387904 →
    (∀ H', Marked r H bs cs (mk x k) H' → K (.int .i64 (k + sz x)) H') → M (valOf agg cs) (.int .i64 k) H K

theorem MarkV.one {α : Type} {P : Program} {f : FuncId} {r : Rd α} {mk : α → Int → α} {sz : α → Nat} (hr : r.n = 1) (h : MarkC P f r mk sz) :
    MarkV false r mk sz (fun v k H K => W.call P (.func (.func f) #[] #[]) #[v, k] H K) := by
  intro H bs cs x k K h1 hnd hrw hk hs hK
  have l1 := r.len h1
  rw [hr] at l1
  obtain ⟨u1, rfl⟩ := List.length_eq_one_iff.1 l1
  exact Wi.call (h _ _ _ _ _ _ h1 hnd hrw hk hs hK)

theorem MarkV.call {α : Type} {P : Program} {f : FuncId} {r : Rd α} {mk : α → Int → α} {sz : α → Nat} (h : MarkA P f r mk sz) :
    MarkV true r mk sz (fun v k H K => W.call P (.func (.func f) #[] #[]) #[v, k] H K) := by
  intro H bs cs x k K h1 hnd hrw hk hs hK
  exact Wi.call (h _ _ _ _ _ _ h1 hnd hrw hk hs hK)

inductive MfOK : Nat → {α : Type} → Rd α → (α → Int → α) → (α → Nat) → List MFld → Prop
  | none {α : Type} {o : Nat} {r : Rd α} : MfOK o r mk0 sz0 []
  | one {α : Type} {o : Nat} {r : Rd α} {mk : α → Int → α} {sz : α → Nat} {agg : Bool} {M : Mrk} {n : Nat} (hn : r.n = n) (ha : agg = false → n = 1) (h : MarkV agg r mk sz M) : MfOK o r mk sz [⟨o, n, agg, M⟩]
  | pair {α β : Type} {o o' : Nat} {r : Rd α} {s : Rd β} {mk : α → Int → α} {sz : α → Nat} {mk' : β → Int → β} {sz' : β → Nat} {fs gs : List MFld}
      (h1 : MfOK o r mk sz fs) (ho : o + r.n = o') (h2 : MfOK o' s mk' sz' gs) : MfOK o (r.pair s) (mkp mk sz mk') (szp sz sz') (fs ++ gs)

def markFields (T : Post) (p : Value) : List MFld → Value → Heap → Prop
  | [], k, H => T k H
  | f :: fs, k, H => W.fieldAddr f.off p H fun v H => getW f.agg f.n v H fun u H => f.M u k H (fun k' H => markFields T p fs k' H)

theorem markFields_append {T : Post} {p : Value} (gs : List MFld) : ∀ (fs : List MFld), markFields T p (fs ++ gs) = markFields (markFields T p gs) p fs
  | [] => by funext k H; simp [markFields]
  | f :: fs => by
    have ih := markFields_append (T := T) (p := p) gs fs
    funext k H
    simp only [List.cons_append, markFields, ih]

theorem markFields_ok {o : Nat} {α : Type} {r : Rd α} {mk : α → Int → α} {sz : α → Nat} {fs : List MFld} (h : MfOK o r mk sz fs) : ∀ {H : Heap} {b : Nat} {kb : Blk} {bs : List Nat} {x : α} {k : Int} {T : Post},
    H.blk b = some kb → b < H.next → b ∉ bs → o + r.n ≤ kb.cells.length → r.rel H bs ((kb.cells.drop o).take r.n) x → bs.Nodup → RW H bs → 0 ≤ k → k + sz x < 4611686018427387904 →
    (∀ H', Marked r H bs ((kb.cells.drop o).take r.n) (mk x k) H' → T (.int .i64 (k + sz x)) H') → markFields T (pt b 0) fs (.int .i64 k) H := by
  induction h with
  | none =>
    intro H b kb bs x k T g1 g2 g3 g4 g5 g6 g7 g8 g9 hT
    have := hT H ⟨Nat.le_refl _, g5, fun _ _ _ => rfl, g7⟩
    simpa [sz0, markFields] using this
  | one hn ha h =>
    subst hn
    intro H b kb bs x k T g1 g2 g3 g4 g5 g6 g7 g8 g9 hT
    exact Wi.fieldAddr0 (getW_ok ha g1 g4 (h _ _ _ _ _ _ g5 g6 g7 g8 g9 hT))
  | pair h1 ho h2 ih1 ih2 =>
    subst ho
    rename_i r s mk sz mk' sz' fs gs
    intro H b kb bs x k T g1 g2 g3 g4 g5 g6 g7 g8 g9 hT
    simp only [Rd.pair] at g4
    obtain ⟨p1, p2, hp, q1, q2⟩ := Rd.pair_split g5
    subst hp
    have hn := List.nodup_append.1 g6
    simp only [szp] at g9
    rw [markFields_append]
    simp only [List.mem_append, not_or] at g3
    refine ih1 g1 g2 g3.1 (by omega) q1 hn.1 g7.left g8 (by omega) fun H1 m1 => ?_
    have fr : ∀ c ∈ p2, H1.blk c = H.blk c := fun c hc => m1.off c (s.low q2 c hc) fun hc1 => hn.2.2 c hc1 c hc rfl
    refine ih2 (b := b) (kb := kb) (by rw [m1.off b g2 g3.1]; exact g1) (Nat.lt_of_lt_of_le g2 m1.next) g3.2 (by omega) (s.frame q2 m1.next fr) hn.2.1 (fun c hc kc hk => by
      rw [fr c hc] at hk; exact g7 c (List.mem_append_right _ hc) kc hk) (by omega) (by omega) fun H2 m2 => ?_
    have := hT H2 ⟨Nat.le_trans m1.next m2.next, ⟨p1, p2, _, _, rfl, by
        rw [← List.drop_drop]
        simp only [Rd.pair]
        exact List.take_add (l := kb.cells.drop _) .., r.frame m1.rel m2.next (fun c hc => m2.off c (r.low m1.rel c hc) fun hc2 => hn.2.2 c hc c hc2 rfl), m2.rel⟩,
      fun c hc hcb => by
        simp only [List.mem_append, not_or] at hcb
        rw [m2.off c (Nat.lt_of_lt_of_le hc m1.next) hcb.2, m1.off c hc hcb.1],
      fun c hc kc hk => by
        rw [List.mem_append] at hc
        rcases hc with hc | hc
        · rw [m2.off c (r.low m1.rel c hc) fun hc2 => hn.2.2 c hc c hc2 rfl] at hk
          exact m1.rw c hc kc hk
        · exact m2.rw c hc kc hk⟩
    simpa [szp, mkp, Int.add_assoc] using this

def markStructW (ty : TypeId) (fs : List MFld) (Q : Post) (a k : Value) (H : Heap) : Prop := W.box a ty H fun p H => markFields Q p fs k H

theorem MarkA.struct {α : Type} {P : Program} {f : FuncId} {r : Rd α} {mk : α → Int → α} {sz : α → Nat} {ty : TypeId} {fs : List MFld} (h : MfOK 0 r mk sz fs)
    (enter : ∀ (Q : Post) (a k : Value) (H : Heap), markStructW ty fs Q a k H → Runs P f #[a, k] H Q) : MarkA P f r mk sz := by
  intro H bs cs x k Q h1 hnd hrw hk hs hQ
  refine enter _ _ _ _ (Wi.box fun H1 l1 n1 k1 => ?_)
  have e1 : cs.take r.n = cs := List.take_of_length_le (by rw [r.len h1]; exact Nat.le_refl _)
  have low := r.low h1
  refine markFields_ok h k1 (by omega) (fun hb => by have := low _ hb; omega) (by simp [r.len h1]) (by simpa [e1] using Rd.le _ h1 l1) hnd (hrw.le l1 low) hk hs fun H2 m => ?_
  simp only [List.drop_zero, e1] at m
  refine hQ H2 ⟨Nat.le_trans l1.next m.next, m.rel, fun c hc hcb => ?_, m.rw⟩
  rw [m.off c (Nat.lt_of_lt_of_le hc l1.next) hcb, l1.blk c hc]

/-! ### Telling marks -/

structure HFld where
  off : Nat
  n : Nat
  agg : Bool
  M : Hld

def HeldV {α : Type} (agg : Bool) (r : Rd α) (mk : α → Int → α) (sz : α → Nat) (M : Hld) : Prop :=
  ∀ H bs cs x (k : Int) A (K : Post), r.rel H bs cs (mk x k) → 0 ≤ k → k + sz x < 4611686018427387904 → (∀ H', H.Le H' → K (.int .i64 (k + sz x)) H') → M (valOf agg cs) (.int .i64 k) H A K

theorem HeldV.one {α : Type} {P : Program} {f : FuncId} {r : Rd α} {mk : α → Int → α} {sz : α → Nat} (hr : r.n = 1) (h : HeldC P f r mk sz) :
    HeldV false r mk sz (fun v k H A K => W.call P (.func (.func f) #[] #[]) #[v, k] H fun v H => W.bin .lss v (.int .i64 0) H fun u H => W.cond u H A (K v)) := by
  intro H bs cs x k A K h1 hk hs hK
  have l1 := r.len h1
  rw [hr] at l1
  obtain ⟨u1, rfl⟩ := List.length_eq_one_iff.1 l1
  refine Wi.call (h _ _ _ _ _ _ h1 hk hs fun H' l => Wi.lss ?_)
  rw [show decide (k + (sz x : Int) < 0) = false by simp; omega]
  exact Wi.fls (hK H' l)

theorem HeldV.call {α : Type} {P : Program} {f : FuncId} {r : Rd α} {mk : α → Int → α} {sz : α → Nat} (h : HeldA P f r mk sz) :
    HeldV true r mk sz (fun v k H A K => W.call P (.func (.func f) #[] #[]) #[v, k] H fun v H => W.bin .lss v (.int .i64 0) H fun u H => W.cond u H A (K v)) := by
  intro H bs cs x k A K h1 hk hs hK
  refine Wi.call (h _ _ _ _ _ _ h1 hk hs fun H' l => Wi.lss ?_)
  rw [show decide (k + (sz x : Int) < 0) = false by simp; omega]
  exact Wi.fls (hK H' l)

inductive HfOK : Nat → {α : Type} → Rd α → (α → Int → α) → (α → Nat) → List HFld → Prop
  | none {α : Type} {o : Nat} {r : Rd α} : HfOK o r mk0 sz0 []
  | one {α : Type} {o : Nat} {r : Rd α} {mk : α → Int → α} {sz : α → Nat} {agg : Bool} {M : Hld} {n : Nat} (hn : r.n = n) (ha : agg = false → n = 1) (h : HeldV agg r mk sz M) : HfOK o r mk sz [⟨o, n, agg, M⟩]
  | pair {α β : Type} {o o' : Nat} {r : Rd α} {s : Rd β} {mk : α → Int → α} {sz : α → Nat} {mk' : β → Int → β} {sz' : β → Nat} {fs gs : List HFld}
      (h1 : HfOK o r mk sz fs) (ho : o + r.n = o') (h2 : HfOK o' s mk' sz' gs) : HfOK o (r.pair s) (mkp mk sz mk') (szp sz sz') (fs ++ gs)

def heldFields (A : Heap → Prop) (T : Post) (p : Value) : List HFld → Value → Heap → Prop
  | [], k, H => T k H
  | f :: fs, k, H => W.fieldAddr f.off p H fun v H => getW f.agg f.n v H fun u H => f.M u k H A (fun k' H => heldFields A T p fs k' H)

theorem heldFields_append {A : Heap → Prop} {T : Post} {p : Value} (gs : List HFld) : ∀ (fs : List HFld), heldFields A T p (fs ++ gs) = heldFields A (heldFields A T p gs) p fs
  | [] => by funext k H; simp [heldFields]
  | f :: fs => by
    have ih := heldFields_append (A := A) (T := T) (p := p) gs fs
    funext k H
    simp only [List.cons_append, heldFields, ih]

theorem heldFields_ok {o : Nat} {α : Type} {r : Rd α} {mk : α → Int → α} {sz : α → Nat} {fs : List HFld} (h : HfOK o r mk sz fs) : ∀ {H : Heap} {b : Nat} {kb : Blk} {bs : List Nat} {x : α} {k : Int} {A : Heap → Prop} {T : Post},
    H.blk b = some kb → b < H.next → o + r.n ≤ kb.cells.length → r.rel H bs ((kb.cells.drop o).take r.n) (mk x k) → 0 ≤ k → k + sz x < 4611686018427387904 →
    (∀ H', H.Le H' → T (.int .i64 (k + sz x)) H') → heldFields A T (pt b 0) fs (.int .i64 k) H := by
  induction h with
  | none =>
    intro H b kb bs x k A T g1 g2 g4 g5 g8 g9 hT
    have := hT H (.refl _)
    simpa [sz0, heldFields] using this
  | one hn ha h =>
    subst hn
    intro H b kb bs x k A T g1 g2 g4 g5 g8 g9 hT
    exact Wi.fieldAddr0 (getW_ok ha g1 g4 (h _ _ _ _ _ _ _ g5 g8 g9 hT))
  | pair h1 ho h2 ih1 ih2 =>
    subst ho
    rename_i r s mk sz mk' sz' fs gs
    intro H b kb bs x k A T g1 g2 g4 g5 g8 g9 hT
    simp only [Rd.pair] at g4
    obtain ⟨p1, p2, hp, q1, q2⟩ := Rd.pair_split g5
    simp only [szp] at g9
    simp only [mkp] at q1 q2
    rw [heldFields_append]
    refine ih1 g1 g2 (by omega) q1 g8 (by omega) fun H1 l1 => ?_
    refine ih2 (l1.at g1 g2) (Nat.lt_of_lt_of_le g2 l1.next) (by omega) (Rd.le _ q2 l1) (by omega) (by omega) fun H2 l2 => ?_
    have := hT H2 (l1.trans l2)
    simpa [szp, Int.add_assoc] using this

def heldStructW (ty : TypeId) (fs : List HFld) (Q : Post) (a k : Value) (H : Heap) : Prop := W.box a ty H fun p H => heldFields (fun H => Q (.int .i64 (-1)) H) Q p fs k H

theorem HeldA.struct {α : Type} {P : Program} {f : FuncId} {r : Rd α} {mk : α → Int → α} {sz : α → Nat} {ty : TypeId} {fs : List HFld} (h : HfOK 0 r mk sz fs)
    (enter : ∀ (Q : Post) (a k : Value) (H : Heap), heldStructW ty fs Q a k H → Runs P f #[a, k] H Q) : HeldA P f r mk sz := by
  intro H bs cs x k Q h1 hk hs hQ
  refine enter _ _ _ _ (Wi.box fun H1 l1 n1 k1 => ?_)
  have e1 : cs.take r.n = cs := List.take_of_length_le (by rw [r.len h1]; exact Nat.le_refl _)
  exact heldFields_ok h k1 (by omega) (by simp [r.len h1]) (by simpa [e1] using Rd.le _ h1 l1) hk hs fun H2 l2 => hQ H2 (l1.trans l2)

end Go.Ab

/-! Values that a call has made. -/
namespace Go.Ab

/-- What a call has made: blocks that were not there, each once, none of them read-only; and all that was is as it was. -/
structure Fresh {α : Type} (r : Rd α) (H : Heap) (cs : List Value) (x : α) (H' : Heap) : Prop where
  le : H.Le H'
  has : ∃ bs, r.rel H' bs cs x ∧ bs.Nodup ∧ (∀ c ∈ bs, H.next ≤ c) ∧ RW H' bs

theorem Fresh.from {α : Type} {r : Rd α} {H0 H : Heap} {cs : List Value} {x : α} {H' : Heap} (f : Fresh r H cs x H') (l : H0.Le H) : Fresh r H0 cs x H' :=
  ⟨l.trans f.le, let ⟨bs, h1, h2, h3, h4⟩ := f.has; ⟨bs, h1, h2, fun c hc => Nat.le_trans l.next (h3 c hc), h4⟩⟩

theorem Fresh.to {α : Type} {r : Rd α} {H H1 H2 : Heap} {cs : List Value} {x : α} (f : Fresh r H cs x H1) (l : H1.Le H2) : Fresh r H cs x H2 :=
  ⟨f.le.trans l, let ⟨bs, h1, h2, h3, h4⟩ := f.has; ⟨bs, Rd.le _ h1 l, h2, h3, h4.le l (r.low h1)⟩⟩

/-- Two things that were made one after the other. -/
theorem Fresh.pair {α β : Type} {r : Rd α} {s : Rd β} {H H1 H2 : Heap} {c1 c2 : List Value} {x : α} {y : β} (f : Fresh r H c1 x H1) (g : Fresh s H1 c2 y H2) : Fresh (r.pair s) H (c1 ++ c2) (x, y) H2 := by
  obtain ⟨b1, p1, p2, p3, p4⟩ := f.has
  obtain ⟨b2, q1, q2, q3, q4⟩ := g.has
  refine ⟨f.le.trans g.le, b1 ++ b2, ⟨b1, b2, c1, c2, rfl, rfl, Rd.le _ p1 g.le, q1⟩, List.nodup_append.2 ⟨p2, q2, fun a ha b hb hab => ?_⟩, fun c hc => ?_, fun c hc => ?_⟩
  · have := r.low p1 a ha
    have := q3 b hb
    omega
  · rcases List.mem_append.1 hc with hc | hc
    · exact p3 c hc
    · exact Nat.le_trans f.le.next (q3 c hc)
  · rcases List.mem_append.1 hc with hc | hc
    · exact p4.le g.le (r.low p1) c hc
    · exact q4 c hc

theorem Fresh.int {H H' : Heap} {n : Int} (l : H.Le H') (h : I64 n) : Fresh Rd.int H [.int .i64 n] n H' :=
  ⟨l, [], ⟨rfl, rfl, h⟩, List.nodup_nil, (fun c hc => by cases hc), (fun c hc => by cases hc)⟩

/-- A new block of elements; what lies in them was made just before. -/
theorem Fresh.slice {α : Type} {r : Rd α} {H H1 H2 : Heap} {kb : Blk} {xs : List α} {e : Nat} (fs : Nat → List Nat) (l : H.Le H1) (l2 : H1.Le H2) (hlt : H1.next < H2.next) (hb : H2.blk H1.next = some kb) (hro : kb.ro = false)
    (hc : 2 * xs.length ≤ e) (hs : xs.length < 9223372036854775808) (hr : xs.length * r.n ≤ kb.cells.length)
    (he : ∀ i (h : i < xs.length), r.rel H1 (fs i) (cellsAt r.n kb.cells 0 i) xs[i] ∧ (fs i).Nodup ∧ (∀ c ∈ fs i, H.next ≤ c) ∧ RW H1 (fs i))
    (hd : ∀ i j, i < j → j < xs.length → ∀ c ∈ fs i, c ∉ fs j) : Fresh (Rd.slice r) H [.slice (some (adr H1.next 0)) xs.length e] xs H2 := by
  have low : ∀ i (h : i < xs.length), ∀ c ∈ fs i, c < H1.next := fun i h c hc => r.low (he i h).1 c hc
  refine ⟨l.trans l2, H1.next :: (List.range xs.length).flatMap fs, .inr ⟨_, 0, e, kb, fs, rfl, rfl, ⟨hlt, hb, hc, hs, by omega, fun i hi => Rd.le _ (he i hi).1 l2⟩⟩, ?_, ?_, ?_⟩
  · refine List.nodup_cons.2 ⟨fun hm => ?_, List.pairwise_flatMap.2 ⟨fun i hi => (he i (by simpa using hi)).2.1, ?_⟩⟩
    · obtain ⟨i, hi, hc⟩ := List.mem_flatMap.1 hm
      have := low i (by simpa using hi) _ hc
      omega
    · refine List.pairwise_iff_getElem.2 fun i j hi hj hij c hc d hd' hcd => ?_
      simp only [List.length_range] at hi hj
      simp only [List.getElem_range] at hc hd'
      subst hcd
      exact hd i j hij hj c hc hd'
  · intro c hc
    rcases List.mem_cons.1 hc with rfl | hc
    · exact l.next
    · obtain ⟨i, hi, hc⟩ := List.mem_flatMap.1 hc
      exact (he i (by simpa using hi)).2.2.1 c hc
  · intro c hc kc hk
    rcases List.mem_cons.1 hc with rfl | hc
    · rw [hb] at hk; cases hk; exact hro
    · obtain ⟨i, hi, hc⟩ := List.mem_flatMap.1 hc
      have hi : i < xs.length := by simpa using hi
      exact (he i hi).2.2.2.le l2 (low i hi) c hc kc hk

/-- Elements made one after the other, all of their blocks from number m on. -/
structure FreshL {α : Type} (r : Rd α) (H : Heap) (m : Nat) (us : List Value) (xs : List α) (H' : Heap) : Prop where
  le : H.Le H'
  low : H.next ≤ m
  high : m ≤ H'.next
  len : us.length = xs.length
  has : ∃ fs : Nat → List Nat, (∀ i (h : i < xs.length) (h' : i < us.length), r.rel H' (fs i) [us[i]] xs[i] ∧ (fs i).Nodup ∧ (∀ c ∈ fs i, m ≤ c) ∧ RW H' (fs i)) ∧
    ∀ i j, i < j → j < xs.length → ∀ c ∈ fs i, c ∉ fs j

theorem FreshL.nil {α : Type} {r : Rd α} {H H' : Heap} {m : Nat} (l : H.Le H') (h1 : H.next ≤ m) (h2 : m ≤ H'.next) : FreshL r H m [] [] H' := ⟨l, h1, h2, rfl, fun _ => [], (fun i h => by simp at h), fun i j _ h => by simp at h⟩

theorem FreshL.to {α : Type} {r : Rd α} {H H1 H2 : Heap} {m : Nat} {us : List Value} {xs : List α} (f : FreshL r H m us xs H1) (l : H1.Le H2) : FreshL r H m us xs H2 := by
  obtain ⟨fs, h1, h2⟩ := f.has
  refine ⟨f.le.trans l, f.low, Nat.le_trans f.high l.next, f.len, fs, fun i h h' => ?_, h2⟩
  obtain ⟨g1, g2, g3, g4⟩ := h1 i h h'
  exact ⟨Rd.le _ g1 l, g2, g3, g4.le l (r.low g1)⟩

theorem FreshL.put {α : Type} {r : Rd α} {H H1 H2 : Heap} {m b : Nat} {kb : Blk} {us : List Value} {xs : List α} (f : FreshL r H m us xs H1) (w : H1.Wr b kb H2) (h0 : H.next ≤ b) (hb : b < m) : FreshL r H m us xs H2 := by
  obtain ⟨fs, h1, h2⟩ := f.has
  refine ⟨w.le f.le h0, f.low, by rw [w.next]; exact f.high, f.len, fs, fun i h h' => ?_, h2⟩
  obtain ⟨g1, g2, g3, g4⟩ := h1 i h h'
  have ne : ∀ c ∈ fs i, c ≠ b := fun c hc e => by have := g3 c hc; omega
  exact ⟨r.frame g1 (by rw [w.next]; exact Nat.le_refl _) (fun c hc => w.off c (ne c hc)), g2, g3, fun c hc kc hk => g4 c hc kc (by rw [← w.off c (ne c hc)]; exact hk)⟩

theorem FreshL.snoc {α : Type} {r : Rd α} {H H1 H2 : Heap} {m : Nat} {us : List Value} {xs : List α} {u : Value} {x : α} (f : FreshL r H m us xs H1) (g : Fresh r H1 [u] x H2) : FreshL r H m (us ++ [u]) (xs ++ [x]) H2 := by
  obtain ⟨fs, h1, h2⟩ := f.has
  obtain ⟨bs, p1, p2, p3, p4⟩ := g.has
  have hl := f.len
  refine ⟨f.le.trans g.le, f.low, Nat.le_trans f.high g.le.next, by simp [hl], fun i => if i < xs.length then fs i else bs, fun i h h' => ?_, fun i j hij hj c hc => ?_⟩
  · by_cases hi : i < xs.length
    · obtain ⟨g1, g2, g3, g4⟩ := h1 i hi (by omega)
      simp only [if_pos hi]
      rw [List.getElem_append_left hi, List.getElem_append_left (by omega)]
      exact ⟨Rd.le _ g1 g.le, g2, g3, g4.le g.le (r.low g1)⟩
    · have e : i = xs.length := by simp at h; omega
      subst e
      simp only [if_neg hi]
      rw [List.getElem_append_right (by omega), List.getElem_append_right (by omega)]
      simp only [hl, Nat.sub_self, List.getElem_cons_zero]
      exact ⟨p1, p2, fun c hc => Nat.le_trans f.high (p3 c hc), p4⟩
  · simp at hj
    have hi : i < xs.length := by omega
    simp only [if_pos hi] at hc
    by_cases hj' : j < xs.length
    · simp only [if_pos hj']
      exact h2 i j hij hj' c hc
    · simp only [if_neg hj']
      intro hcb
      have := p3 c hcb
      have := r.low (h1 i hi (by omega)).1 c hc
      omega

/-- A slice of what was made, its own block being older than theirs. -/
theorem FreshL.slice {α : Type} {r : Rd α} {H H2 : Heap} {m : Nat} {us : List Value} {xs : List α} {b n e : Nat} {kb : Blk} (hr : r.n = 1) (f : FreshL r H m us xs H2) (hlt : b < H2.next) (hb : H2.blk b = some kb)
    (hro : kb.ro = false) (hcells : kb.cells = us) (hn : n = xs.length) (hc : 2 * n ≤ e) (hs : n < 9223372036854775808) (hbm : b < m) (hb0 : H.next ≤ b) : Fresh (Rd.slice r) H [.slice (some (adr b 0)) n e] xs H2 := by
  subst hn
  obtain ⟨fs, h1, h2⟩ := f.has
  have hl := f.len
  have each : ∀ i (h : i < xs.length), r.rel H2 (fs i) (cellsAt r.n kb.cells 0 i) xs[i] ∧ (fs i).Nodup ∧ (∀ c ∈ fs i, m ≤ c) ∧ RW H2 (fs i) := fun i h => by
    have := h1 i h (by omega)
    rw [hr, hcells, cellsAt_one (by omega)]
    simp only [Nat.zero_add, Nat.mul_one]
    exact this
  refine ⟨f.le, b :: (List.range xs.length).flatMap fs, .inr ⟨b, 0, e, kb, fs, rfl, rfl, ⟨hlt, hb, hc, hs, by rw [hr, hcells]; omega, fun i hi => (each i hi).1⟩⟩, ?_, ?_, ?_⟩
  · refine List.nodup_cons.2 ⟨fun hm => ?_, List.pairwise_flatMap.2 ⟨fun i hi => (each i (by simpa using hi)).2.1, ?_⟩⟩
    · obtain ⟨i, hi, hc⟩ := List.mem_flatMap.1 hm
      have := (each i (by simpa using hi)).2.2.1 _ hc
      omega
    · refine List.pairwise_iff_getElem.2 fun i j hi hj hij c hc d hd' hcd => ?_
      simp only [List.length_range] at hi hj
      simp only [List.getElem_range] at hc hd'
      subst hcd
      exact h2 i j hij hj c hc hd'
  · intro c hc
    rcases List.mem_cons.1 hc with rfl | hc
    · exact hb0
    · obtain ⟨i, hi, hc⟩ := List.mem_flatMap.1 hc
      exact Nat.le_trans f.low ((each i (by simpa using hi)).2.2.1 c hc)
  · intro c hc kc hk
    rcases List.mem_cons.1 hc with rfl | hc
    · rw [hb] at hk; cases hk; exact hro
    · obtain ⟨i, hi, hc⟩ := List.mem_flatMap.1 hc
      exact (each i (by simpa using hi)).2.2.2 c hc kc hk

/-- A write to a block that is older than what was made, but not as old as what was there. -/
theorem Fresh.put {α : Type} {r : Rd α} {H0 H H1 H2 : Heap} {cs : List Value} {x : α} {b : Nat} {kb : Blk} (f : Fresh r H cs x H1) (l : H0.Le H) (w : H1.Wr b kb H2) (h0 : H0.next ≤ b) (hb : b < H.next) : Fresh r H0 cs x H2 := by
  obtain ⟨bs, p1, p2, p3, p4⟩ := f.has
  have ne : ∀ c ∈ bs, c ≠ b := fun c hc e => by have := p3 c hc; omega
  refine ⟨w.le (l.trans f.le) h0, bs, r.frame p1 (by rw [w.next]; exact Nat.le_refl _) (fun c hc => w.off c (ne c hc)), p2, fun c hc => Nat.le_trans l.next (p3 c hc), fun c hc kc hk => ?_⟩
  rw [w.off c (ne c hc)] at hk
  exact p4 c hc kc hk

theorem Wi.getA {n b : Nat} {cs : List Value} {ty : TypeId} {e : Nat} {ro : Bool} {H : Heap} {k : Post} (hb : H.blk b = some ⟨cs, ty, e, ro⟩) (hl : cs.length = n) (h : k (.agg cs.toArray) H) : W.getN n (pt b 0) H k := by
  refine Wi.getN hb (by simp [hl]) ?_
  rw [List.drop_zero, List.take_of_length_le (by simp [hl])]
  exact h

/-- A struct made by a function that takes nothing. -/
def MakesA {α : Type} (P : Program) (f : FuncId) (r : Rd α) (x : α) : Prop := ∀ H (Q : Post), (∀ H' cs, Fresh r H cs x H' → Q (.agg cs.toArray) H') → Runs P f #[] H Q

end Go.Ab

/-! The laws' own helpers: weighing and copying arguments. -/
namespace Go.Ab

/-! ### Weighing -/

def SzC {α : Type} (P : Program) (f : FuncId) (r : Rd α) (w : α → Nat) : Prop :=
  ∀ H bs v x (left : Int) (Q : Post), r.rel H bs [v] x → 0 ≤ left → left < 4611686018427387904 → (w x ≤ left → ∀ H', H.Le H' → Q (.int .i64 (left - w x)) H') →
    (left < w x → ∀ H', H.Le H' → Q (.int .i64 (-1)) H') → Runs P f #[v, .int .i64 left] H Q

def SzA {α : Type} (P : Program) (f : FuncId) (r : Rd α) (w : α → Nat) : Prop :=
  ∀ H bs cs x (left : Int) (Q : Post), r.rel H bs cs x → 0 ≤ left → left < 4611686018427387904 → (w x ≤ left → ∀ H', H.Le H' → Q (.int .i64 (left - w x)) H') →
    (left < w x → ∀ H', H.Le H' → Q (.int .i64 (-1)) H') → Runs P f #[.agg cs.toArray, .int .i64 left] H Q

/-- Weighing, what follows if it is too much, and if not. -/
def SzV {α : Type} (agg : Bool) (r : Rd α) (w : α → Nat) (M : Hld) : Prop :=
  ∀ H bs cs x (left : Int) A (K : Post), r.rel H bs cs x → 0 ≤ left → left < 4611686018427387904 → (w x ≤ left → ∀ H', H.Le H' → K (.int .i64 (left - w x)) H') →
    (left < w x → ∀ H', H.Le H' → A H') → M (valOf agg cs) (.int .i64 left) H A K

theorem SzV.one {α : Type} {P : Program} {f : FuncId} {r : Rd α} {w : α → Nat} (hr : r.n = 1) (h : SzC P f r w) :
    SzV false r w (fun v k H A K => W.call P (.func (.func f) #[] #[]) #[v, k] H fun v H => W.bin .lss v (.int .i64 0) H fun u H => W.cond u H A (K v)) := by
  intro H bs cs x left A K h1 hk hs hK hA
  have l1 := r.len h1
  rw [hr] at l1
  obtain ⟨u1, rfl⟩ := List.length_eq_one_iff.1 l1
  refine Wi.call (h _ _ _ _ _ _ h1 hk hs (fun hw H' l => Wi.lss ?_) fun hw H' l => Wi.lss ?_)
  · rw [show decide (left - (w x : Int) < 0) = false by simp; omega]
    exact Wi.fls (hK hw H' l)
  · exact Wi.tru (hA hw H' l)

theorem SzV.call {α : Type} {P : Program} {f : FuncId} {r : Rd α} {w : α → Nat} (h : SzA P f r w) :
    SzV true r w (fun v k H A K => W.call P (.func (.func f) #[] #[]) #[v, k] H fun v H => W.bin .lss v (.int .i64 0) H fun u H => W.cond u H A (K v)) := by
  intro H bs cs x left A K h1 hk hs hK hA
  refine Wi.call (h _ _ _ _ _ _ h1 hk hs (fun hw H' l => Wi.lss ?_) fun hw H' l => Wi.lss ?_)
  · rw [show decide (left - (w x : Int) < 0) = false by simp; omega]
    exact Wi.fls (hK hw H' l)
  · exact Wi.tru (hA hw H' l)

def szLenW (Q : Post) (a left : Value) (H : Heap) : Prop :=
  W.len a H fun v1 H => W.bin .sub left v1 H fun v2 H => W.bin .lss v2 (.int .i64 0) H fun v3 H => W.cond v3 H (fun H => Q (.int .i64 (-1)) H) (fun H => Q v2 H)

theorem SzC.len {α : Type} {P : Program} {f : FuncId} {r : Rd α} (enter : ∀ (Q : Post) (a k : Value) (H : Heap), szLenW Q a k H → Runs P f #[a, k] H Q) : SzC P f (Rd.slice r) List.length := by
  intro H bs v x left Q h h0 hs hK hA
  have hx := Rd.slice_small h
  obtain ⟨p1, e1, g1⟩ := Rd.slice_val h
  simp only [List.cons.injEq, and_true] at g1
  refine enter _ _ _ _ ?_
  unfold szLenW
  rw [g1]
  refine Wi.len (Wi.sub (by unfold I64; omega) (Wi.lss (Wi.cond (fun hlt => ?_) fun hge => ?_)))
  · exact hA (by simp at hlt; omega) H (.refl _)
  · exact hK (by simp at hge; omega) H (.refl _)

def szSliceW (n1 n2 : Nat) (M : Hld) (Q : Post) (a left : Value) (H : Heap) : Prop :=
  W.len a H fun v1 H => W.bin .sub left v1 H fun v2 H => W.bin .lss v2 (.int .i64 0) H fun v3 H => W.cond v3 H (fun H => Q (.int .i64 (-1)) H)
    (fun H => W.loop (S := St [n1, n2]) (fun I s H => W.len a H fun v4 H => W.bin .lss s.2.1 v4 H fun v5 H => W.cond v5 H
      (fun H => W.indexAddr 1 a s.2.1 H fun v6 H => W.get v6 H fun v7 H => M v7 s.1 H (fun H => Q (.int .i64 (-1)) H) (fun v8 H => W.bin .add s.2.1 (.int .i64 1) H fun v10 H => I (v8, v10, ()) H))
      (fun H => Q s.1 H)) (v2, .int .i64 0, ()) H)

def wl {α : Type} (w : α → Nat) (xs : List α) : Nat := xs.length + szl w xs

theorem SzC.slice {α : Type} {P : Program} {f : FuncId} {r : Rd α} (hr : r.n = 1) {w : α → Nat} {M : Hld} (hM : SzV false r w M) {n1 n2 : Nat}
    (enter : ∀ (Q : Post) (a k : Value) (H : Heap), szSliceW n1 n2 M Q a k H → Runs P f #[a, k] H Q) : SzC P f (Rd.slice r) (wl w) := by
  intro H bs v xs left Q h h0 hs hK hA
  have hx := Rd.slice_small h
  obtain ⟨p1, e1, g1⟩ := Rd.slice_val h
  simp only [List.cons.injEq, and_true] at g1
  refine enter _ _ _ _ ?_
  unfold szSliceW
  rw [g1]
  refine Wi.len (Wi.sub (by unfold I64; omega) (Wi.lss (Wi.cond (fun hlt => ?_) fun hge => ?_)))
  · exact hA (by simp [wl] at hlt ⊢; omega) H (.refl _)
  rw [← g1]
  refine W.loop_rule (fun s H' => ∃ zs ws, xs = zs ++ ws ∧ s = (.int .i64 (left - xs.length - szl w zs), .int .i64 zs.length, ()) ∧ 0 ≤ left - xs.length - szl w zs ∧ H.Le H')
    (fun s _ => match s.2.1 with | .int _ i => xs.length - i.toNat | _ => 0) ⟨[], xs, rfl, by simp [szl]; rfl, by simp [szl] at hge ⊢; omega, .refl _⟩ ?_
  rintro s H1 ⟨zs, ws, hxs, rfl, hpos, m⟩
  have hH := Rd.le _ h m
  rw [g1]
  simp only
  refine Wi.len (Wi.lss (Wi.cond (fun hlt => ?_) fun hge => ?_))
  · have hz : zs.length < xs.length := by
      simp only [decide_eq_true_eq] at hlt; omega
    cases ws with
    | nil => rw [hxs] at hz; simp at hz
    | cons x ws =>
      obtain ⟨b, o, e, kb, fs, q1, q2, s⟩ := Rd.slice_at hH hz
      obtain ⟨u, m1, r1⟩ := s.one hr hz
      rw [← g1, q1]
      have hget : xs[zs.length] = x := by simp [hxs]
      rw [hget] at r1
      have hszs : szl w xs = szl w zs + (w x + szl w ws) := by rw [hxs, szl_append]; rfl
      refine Wi.index hz (Wi.get s.blk m1 (hM _ _ _ _ _ _ _ r1 hpos (by omega) (fun hw H2 l2 => ?_) fun hw H2 l2 => ?_))
      · refine Wi.add (by unfold I64; omega) ⟨⟨zs ++ [x], ws, by rw [hxs]; simp, ?_, ?_, m.trans l2⟩, ?_⟩
        · simp only [szl_append, szl, List.length_append, List.length_singleton]
          congr 2
          omega
        · simp only [szl_append, szl]
          omega
        · simp only
          simp
          omega
      · exact hA (by simp only [wl]; omega) H2 (m.trans l2)
  · have hz : zs.length = xs.length := by
      have : zs.length ≤ xs.length := by rw [hxs]; simp
      simp only [decide_eq_false_iff_not] at hge
      omega
    have : ws = [] := by
      rw [hxs] at hz
      simp at hz
      exact hz
    subst this
    rw [List.append_nil] at hxs
    subst hxs
    have := hK (by simp only [wl]; omega) H1 m
    rw [show left - (wl w xs : Int) = left - xs.length - szl w xs by simp only [wl]; omega] at this
    exact this

/-! ### Structs weighed -/

inductive SfOK : Nat → {α : Type} → Rd α → (α → Nat) → List HFld → Prop
  | none {α : Type} {o : Nat} {r : Rd α} : SfOK o r sz0 []
  | one {α : Type} {o : Nat} {r : Rd α} {w : α → Nat} {agg : Bool} {M : Hld} {n : Nat} (hn : r.n = n) (ha : agg = false → n = 1) (h : SzV agg r w M) : SfOK o r w [⟨o, n, agg, M⟩]
  | pair {α β : Type} {o o' : Nat} {r : Rd α} {s : Rd β} {w : α → Nat} {w' : β → Nat} {fs gs : List HFld}
      (h1 : SfOK o r w fs) (ho : o + r.n = o') (h2 : SfOK o' s w' gs) : SfOK o (r.pair s) (szp w w') (fs ++ gs)

theorem szFields_ok {o : Nat} {α : Type} {r : Rd α} {w : α → Nat} {fs : List HFld} (h : SfOK o r w fs) : ∀ {H : Heap} {b : Nat} {kb : Blk} {bs : List Nat} {x : α} {k : Int} {A : Heap → Prop} {T : Post},
    H.blk b = some kb → b < H.next → o + r.n ≤ kb.cells.length → r.rel H bs ((kb.cells.drop o).take r.n) x → 0 ≤ k → k < 4611686018427387904 →
    (w x ≤ k → ∀ H', H.Le H' → T (.int .i64 (k - w x)) H') → (k < w x → ∀ H', H.Le H' → A H') → heldFields A T (pt b 0) fs (.int .i64 k) H := by
  induction h with
  | none =>
    intro H b kb bs x k A T g1 g2 g4 g5 g8 g9 hT hA
    have := hT (by simp [sz0]; exact g8) H (.refl _)
    simpa [sz0, heldFields] using this
  | one hn ha h =>
    subst hn
    intro H b kb bs x k A T g1 g2 g4 g5 g8 g9 hT hA
    exact Wi.fieldAddr0 (getW_ok ha g1 g4 (h _ _ _ _ _ _ _ g5 g8 g9 hT hA))
  | pair h1 ho h2 ih1 ih2 =>
    subst ho
    rename_i r s w w' fs gs
    intro H b kb bs x k A T g1 g2 g4 g5 g8 g9 hT hA
    simp only [Rd.pair] at g4
    obtain ⟨p1, p2, hp, q1, q2⟩ := Rd.pair_split g5
    rw [heldFields_append]
    refine ih1 g1 g2 (by omega) q1 g8 g9 (fun hw H1 l1 => ?_) fun hw H1 l1 => hA (by simp only [szp]; omega) H1 l1
    refine ih2 (l1.at g1 g2) (Nat.lt_of_lt_of_le g2 l1.next) (by omega) (Rd.le _ q2 l1) (by omega) (by omega) (fun hw2 H2 l2 => ?_) fun hw2 H2 l2 => hA (by simp only [szp]; omega) H2 (l1.trans l2)
    have := hT (by simp only [szp]; omega) H2 (l1.trans l2)
    rw [show k - (szp w w' x : Int) = k - w x.1 - w' x.2 by simp only [szp]; omega] at this
    exact this

theorem SzA.struct {α : Type} {P : Program} {f : FuncId} {r : Rd α} {w : α → Nat} {ty : TypeId} {fs : List HFld} (h : SfOK 0 r w fs)
    (enter : ∀ (Q : Post) (a k : Value) (H : Heap), heldStructW ty fs Q a k H → Runs P f #[a, k] H Q) : SzA P f r w := by
  intro H bs cs x k Q h1 hk hs hQ hA
  refine enter _ _ _ _ (Wi.box fun H1 l1 n1 k1 => ?_)
  have e1 : cs.take r.n = cs := List.take_of_length_le (by rw [r.len h1]; exact Nat.le_refl _)
  exact szFields_ok h k1 (by omega) (by simp [r.len h1]) (by simpa [e1] using Rd.le _ h1 l1) hk hs (fun hw H2 l2 => hQ hw H2 (l1.trans l2)) fun hw H2 l2 => hA hw H2 (l1.trans l2)

end Go.Ab

/-! The laws' own helpers: copying arguments. -/
namespace Go.Ab

theorem valOf_one (u : Value) : valOf false [u] = u := rfl

/-- The same to a block's cells but those of one block. -/
structure Heap.LeBut (H : Heap) (b : Nat) (H' : Heap) : Prop where
  next : H.next ≤ H'.next
  blk : ∀ c, c < H.next → c ≠ b → H'.blk c = H.blk c

theorem Rd.leBut {α : Type} (r : Rd α) {H H' : Heap} {b : Nat} {bs : List Nat} {cs : List Value} {x : α} (h : r.rel H bs cs x) (l : H.LeBut b H') (hb : b ∉ bs) : r.rel H' bs cs x :=
  r.frame h l.next fun c hc => l.blk c (r.low h c hc) fun e => hb (e ▸ hc)

abbrev Cpy := Value → Heap → Post → Prop

/-- Copying a value: as it reads, in new blocks. -/
def ToV {α : Type} (agg : Bool) (r : Rd α) (w : α → Nat) (E : Cpy) : Prop :=
  ∀ H bs cs x (K : Post), r.rel H bs cs x → w x ≤ 1048576 → (∀ H' cs', Fresh r H cs' x H' → K (valOf agg cs') H') → E (valOf agg cs) H K

theorem ToV.int : ToV false Rd.int sz0 (fun v H K => K v H) := by
  rintro H bs cs x K ⟨rfl, rfl, h⟩ _ hK
  exact hK H [.int .i64 x] (Fresh.int (.refl _) h)

def ToC {α : Type} (P : Program) (f : FuncId) (r : Rd α) (w : α → Nat) : Prop :=
  ∀ H bs v x (Q : Post), r.rel H bs [v] x → w x ≤ 1048576 → (∀ H' u, Fresh r H [u] x H' → Q u H') → Runs P f #[v] H Q

def ToA {α : Type} (P : Program) (f : FuncId) (r : Rd α) (w : α → Nat) : Prop :=
  ∀ H bs cs x (Q : Post), r.rel H bs cs x → w x ≤ 1048576 → (∀ H' cs', Fresh r H cs' x H' → Q (.agg cs'.toArray) H') → Runs P f #[.agg cs.toArray] H Q

theorem ToV.one {α : Type} {P : Program} {f : FuncId} {r : Rd α} {w : α → Nat} (hr : r.n = 1) (h : ToC P f r w) : ToV false r w (fun v H K => W.call P (.func (.func f) #[] #[]) #[v] H K) := by
  intro H bs cs x K h1 hw hK
  have l1 := r.len h1
  rw [hr] at l1
  obtain ⟨u1, rfl⟩ := List.length_eq_one_iff.1 l1
  exact Wi.call (h _ _ _ _ _ h1 hw fun H' u f => hK H' [u] f)

theorem ToV.call {α : Type} {P : Program} {f : FuncId} {r : Rd α} {w : α → Nat} (h : ToA P f r w) : ToV true r w (fun v H K => W.call P (.func (.func f) #[] #[]) #[v] H K) := by
  intro H bs cs x K h1 hw hK
  exact Wi.call (h _ _ _ _ _ h1 hw fun H' u f => hK H' u f)

def toSliceW (n : Nat) (z : Value) (ty : TypeId) (E : Cpy) (Q : Post) (a : Value) (H : Heap) : Prop :=
  W.len a H fun v1 H => W.make [z] ty v1 v1 H fun v2 H => W.loop (S := St [n]) (fun I s H =>
    W.len a H fun v3 H => W.bin .lss s.1 v3 H fun v4 H => W.cond v4 H
      (fun H => W.indexAddr 1 a s.1 H fun v5 H => W.get v5 H fun v6 H => E v6 H fun v7 H => W.indexAddr 1 v2 s.1 H fun v8 H => W.put v8 v7 H fun _ H => W.bin .add s.1 (.int .i64 1) H fun v9 H => I (v9, ()) H)
      (fun H => Q v2 H)) (.int .i64 0, ()) H

theorem reps_one (n : Nat) (z : Value) : reps n [z] = List.replicate n z := by
  induction n with
  | zero => rfl
  | succ n ih =>
    rw [List.replicate_succ, ← ih]
    simp [reps, List.replicate_succ]

theorem toSlice_ok {α : Type} {r : Rd α} (hr : r.n = 1) {w : α → Nat} {E : Cpy} (hE : ToV false r w E) {n : Nat} {z : Value} {ty : TypeId} {Q : Post} {H : Heap} {bs : List Nat} {a : Value} {xs : List α}
    (h : (Rd.slice r).rel H bs [a] xs) (hlen : xs.length ≤ 1048576) (hw : ∀ x ∈ xs, w x ≤ 1048576) (hQ : ∀ H' u, Fresh (Rd.slice r) H [u] xs H' → Q u H') : toSliceW n z ty E Q a H := by
  obtain ⟨p1, e1, g1⟩ := Rd.slice_val h
  simp only [List.cons.injEq, and_true] at g1
  unfold toSliceW
  rw [g1]
  refine Wi.len (Wi.make (by omega) fun H1 l1 n1 k1 => ?_)
  rw [reps_one] at k1
  refine W.loop_rule (fun s H' => ∃ zs ws us, xs = zs ++ ws ∧ s = (.int .i64 zs.length, ()) ∧ H'.blk H.next = some ⟨us ++ List.replicate ws.length z, ty, 1, false⟩ ∧ FreshL r H (H.next + 1) us zs H')
    (fun s _ => match s.1 with | .int _ i => xs.length - i.toNat | _ => 0) ⟨[], xs, [], rfl, rfl, k1, .nil l1 (by omega) (by omega)⟩ ?_
  rintro s H2 ⟨zs, ws, us, hxs, rfl, k2, F⟩
  have hus := F.len
  have hHn := F.high
  refine Wi.len (Wi.lss (Wi.cond (fun hlt => ?_) fun hge => ?_))
  · have hz : zs.length < xs.length := by
      simp only [decide_eq_true_eq] at hlt; omega
    cases ws with
    | nil => rw [hxs] at hz; simp at hz
    | cons x ws =>
      obtain ⟨b, o, e, kb, fs, q1, q2, s⟩ := Rd.slice_at (Rd.le _ h F.le) hz
      obtain ⟨u, m1, r1⟩ := s.one hr hz
      rw [← g1, q1]
      have hget : xs[zs.length] = x := by simp [hxs]
      rw [hget] at r1
      refine Wi.index hz (Wi.get s.blk m1 (hE _ _ [u] _ _ r1 (hw x (by rw [hxs]; simp)) fun H3 cs' F3 => ?_))
      obtain ⟨b3, p1, _⟩ := F3.has
      have l3 := r.len p1
      rw [hr] at l3
      obtain ⟨u', rfl⟩ := List.length_eq_one_iff.1 l3
      have k3 := F3.le.at k2 (by omega)
      refine Wi.index (b := H.next) (o := 0) hz (Wi.put k3 (by simpa [valOf_one] using r.cell p1) rfl (by simp; omega) fun H4 w4 => ?_)
      refine Wi.add (by unfold I64; omega) ⟨⟨zs ++ [x], ws, us ++ [u'], by rw [hxs]; simp, ?_, ?_, (F.snoc F3).put w4 (Nat.le_refl _) (by omega)⟩, ?_⟩
      · simp
        rfl
      · rw [w4.here]
        congr 2
        simp only [Nat.zero_add, Nat.mul_one, ← hus, List.length_cons, List.replicate_succ]
        rw [List.set_append_right _ _ (Nat.le_refl _)]
        simp [valOf_one]
      · simp only
        simp
        omega
  · have hz : zs.length = xs.length := by
      have : zs.length ≤ xs.length := by rw [hxs]; simp
      simp only [decide_eq_false_iff_not] at hge
      omega
    have : ws = [] := by
      rw [hxs] at hz
      simp at hz
      exact hz
    subst this
    rw [List.append_nil] at hxs
    subst hxs
    exact hQ H2 _ (F.slice hr (by omega) k2 rfl (by simp) rfl (Nat.le_refl _) (by omega) (by omega) (Nat.le_refl _))

theorem szl_mem {α : Type} {w : α → Nat} {xs : List α} {x : α} (h : x ∈ xs) : w x ≤ szl w xs := by
  induction xs with
  | nil => cases h
  | cons y xs ih =>
    simp only [szl]
    rcases List.mem_cons.1 h with rfl | h
    · omega
    · have := ih h; omega

theorem ToC.slice {α : Type} {P : Program} {f : FuncId} {r : Rd α} (hr : r.n = 1) {w : α → Nat} {E : Cpy} (hE : ToV false r w E) {n : Nat} {z : Value} {ty : TypeId}
    (enter : ∀ (Q : Post) (a : Value) (H : Heap), toSliceW n z ty E Q a H → Runs P f #[a] H Q) : ToC P f (Rd.slice r) (wl w) := by
  intro H bs v xs Q h hw hQ
  simp only [wl] at hw
  exact enter _ _ _ (toSlice_ok hr hE h (by omega) (fun x hx => by have := szl_mem (w := w) hx; omega) hQ)

theorem szl_zero {α : Type} (xs : List α) : szl (sz0 (α := α)) xs = 0 := by
  induction xs with
  | nil => rfl
  | cons x xs ih => simp [szl, ih, sz0]

/-- The weight of a list of numbers is its length. -/
theorem ToC.len {P : Program} {f : FuncId} {α : Type} {r : Rd α} (h : ToC P f (Rd.slice r) (wl sz0)) : ToC P f (Rd.slice r) List.length := by
  intro H bs v xs Q h1 hw hQ
  exact h _ _ _ _ _ h1 (by simp only [wl, szl_zero]; omega) hQ

/-! ### Structs -/

structure TFld where
  off : Nat
  n : Nat
  agg : Bool
  E : Cpy

inductive TfOK : Nat → {α : Type} → Rd α → (α → Nat) → List TFld → Prop
  | one {α : Type} {o : Nat} {r : Rd α} {w : α → Nat} {agg : Bool} {E : Cpy} {n : Nat} (hn : r.n = n) (ha : agg = false → n = 1) (h : ToV agg r w E) : TfOK o r w [⟨o, n, agg, E⟩]
  | pair {α β : Type} {o o' : Nat} {r : Rd α} {s : Rd β} {w : α → Nat} {w' : β → Nat} {fs gs : List TFld}
      (h1 : TfOK o r w fs) (ho : o + r.n = o') (h2 : TfOK o' s w' gs) : TfOK o (r.pair s) (szp w w') (fs ++ gs)

def putW (agg : Bool) (n : Nat) (p v : Value) (H : Heap) (k : Post) : Prop := match agg with | true => W.putN n p v H k | false => W.put p v H k

theorem putW_ok {agg : Bool} {n b o : Nat} {kb : Blk} {cs : List Value} {H : Heap} {k : Post} (hn : agg = false → n = 1) (hb : H.blk b = some kb) (hl : cs.length = n) (hc : cs.all isCell = true) (hro : kb.ro = false) (hlt : o + n ≤ kb.cells.length)
    (h : ∀ H', H.Wr b { kb with cells := kb.cells.take o ++ cs ++ kb.cells.drop (o + n) } H' → k undef H') : putW agg n (pt b o) (valOf agg cs) H k := by
  cases agg with
  | true => exact Wi.putN hb (by simpa using hl) (by simpa using hc) hro hlt (by simpa using h)
  | false =>
    have := hn rfl
    subst this
    obtain ⟨u, rfl⟩ := List.length_eq_one_iff.1 hl
    refine Wi.put hb (by simpa [valOf_one] using hc) hro (by omega) fun H' w => h H' ?_
    rw [List.set_eq_take_append_cons_drop, if_pos (by omega)] at w
    simpa [valOf_one] using w

def toFields (T : Heap → Prop) (p q : Value) : List TFld → Heap → Prop
  | [], H => T H
  | f :: fs, H => W.fieldAddr f.off p H fun a H => getW f.agg f.n a H fun u H => f.E u H fun u' H => W.fieldAddr f.off q H fun c H => putW f.agg f.n c u' H fun _ H => toFields T p q fs H

theorem toFields_append {T : Heap → Prop} {p q : Value} (gs : List TFld) : ∀ (fs : List TFld), toFields T p q (fs ++ gs) = toFields (toFields T p q gs) p q fs
  | [] => by funext H; simp [toFields]
  | f :: fs => by
    have ih := toFields_append (T := T) (p := p) (q := q) gs fs
    funext H
    simp only [List.cons_append, toFields, ih]

theorem toFields_ok {o : Nat} {α : Type} {r : Rd α} {w : α → Nat} {fs : List TFld} (h : TfOK o r w fs) : ∀ {H : Heap} {b q : Nat} {kb kq : Blk} {bs : List Nat} {x : α} {T : Heap → Prop},
    H.blk b = some kb → b < H.next → o + r.n ≤ kb.cells.length → r.rel H bs ((kb.cells.drop o).take r.n) x → w x ≤ 1048576 →
    H.blk q = some kq → q < H.next → b ≠ q → q ∉ bs → kq.ro = false → o + r.n ≤ kq.cells.length →
    (∀ H' cs' bs', H.LeBut q H' → H'.blk q = some { kq with cells := kq.cells.take o ++ cs' ++ kq.cells.drop (o + r.n) } → r.rel H' bs' cs' x → bs'.Nodup → (∀ c ∈ bs', H.next ≤ c) → RW H' bs' → T H') →
    toFields T (pt b 0) (pt q 0) fs H := by
  induction h with
  | one hn ha h =>
    subst hn
    rename_i r w agg E
    intro H b q kb kq bs x T g1 g2 g3 g4 g5 g6 g7 g8 g9 g10 g11 hT
    refine Wi.fieldAddr0 (getW_ok ha g1 g3 (h _ _ _ _ _ g4 g5 fun H1 cs' F => ?_))
    obtain ⟨bs', p1, p2, p3, p4⟩ := F.has
    refine Wi.fieldAddr0 (putW_ok ha (F.le.at g6 g7) (r.len p1) (r.cell p1) g10 g11 fun H2 w2 => ?_)
    have ne : ∀ c ∈ bs', c ≠ q := fun c hc e => by have := p3 c hc; omega
    refine hT H2 cs' bs' ⟨by rw [w2.next]; exact F.le.next, fun c hc hcq => by rw [w2.off c hcq, F.le.blk c hc]⟩ w2.here (r.frame p1 (by rw [w2.next]; exact Nat.le_refl _) fun c hc => w2.off c (ne c hc)) p2 p3 fun c hc kc hk => p4 c hc kc (by rw [← w2.off c (ne c hc)]; exact hk)
  | pair h1 ho h2 ih1 ih2 =>
    subst ho
    rename_i o r s w w' fs gs
    intro H b q kb kq bs x T g1 g2 g3 g4 g5 g6 g7 g8 g9 g10 g11 hT
    simp only [Rd.pair] at g3 g11
    simp only [szp] at g5
    obtain ⟨p1, p2, hp, q1, q2⟩ := Rd.pair_split g4
    subst hp
    simp only [List.mem_append, not_or] at g9
    rw [toFields_append]
    refine ih1 g1 g2 (by omega) q1 (by omega) g6 g7 g8 g9.1 g10 (by omega) fun H1 c1 b1 l1 k1 r1 nd1 lo1 rw1 => ?_
    have hl1 := r.len r1
    refine ih2 (b := b) (kb := kb) (by rw [l1.blk b g2 g8]; exact g1) (Nat.lt_of_lt_of_le g2 l1.next) (by omega) (Rd.leBut _ q2 l1 g9.2) (by omega) k1 (Nat.lt_of_lt_of_le g7 l1.next) g8 g9.2 g10 (by simp [hl1]; omega) fun H2 c2 b2 l2 k2 r2 nd2 lo2 rw2 => ?_
    have hl2 := s.len r2
    have low1 := r.low r1
    refine hT H2 (c1 ++ c2) (b1 ++ b2) ⟨Nat.le_trans l1.next l2.next, fun c hc hcq => by rw [l2.blk c (Nat.lt_of_lt_of_le hc l1.next) hcq, l1.blk c hc hcq]⟩ ?_
      ⟨b1, b2, c1, c2, rfl, rfl, Rd.leBut _ r1 l2 (fun hq => by have := lo1 q hq; omega), r2⟩ (List.nodup_append.2 ⟨nd1, nd2, fun c hc d hd' e => by have := low1 c hc; have := lo2 d hd'; omega⟩)
      (fun c hc => (List.mem_append.1 hc).elim (lo1 c) fun hc => Nat.le_trans l1.next (lo2 c hc)) fun c hc kc hk => ?_
    · rw [k2]
      congr 2
      simp only [Rd.pair]
      have t1 : (kq.cells.take o ++ c1 ++ kq.cells.drop (o + r.n)).take (o + r.n) = kq.cells.take o ++ c1 := by
        rw [List.take_append_of_le_length (by simp [hl1]; omega), List.take_of_length_le (by simp [hl1]; omega)]
      have t2 : (kq.cells.take o ++ c1 ++ kq.cells.drop (o + r.n)).drop (o + r.n + s.n) = kq.cells.drop (o + (r.n + s.n)) := by
        have hlen : (kq.cells.take o ++ c1).length = o + r.n := by simp [hl1]; omega
        rw [← hlen, List.drop_append, hlen, List.drop_of_length_le (by rw [hlen]; omega), List.nil_append, List.drop_drop]
        congr 1
        omega
      rw [t1, t2]
      simp
    · rcases List.mem_append.1 hc with hc | hc
      · rw [l2.blk c (low1 c hc) (fun e => by have := lo1 c hc; omega)] at hk
        exact rw1 c hc kc hk
      · exact rw2 c hc kc hk

def toStructW (n : Nat) (ty ty' : TypeId) (zero : List Value) (fs : List TFld) (Q : Post) (a : Value) (H : Heap) : Prop :=
  W.box a ty H fun v1 H => W.new zero ty' H fun v2 H => W.new zero ty' H fun v3 H =>
    toFields (fun H => W.getN n v3 H fun x H => W.putN n v2 x H fun _ H => W.getN n v2 H fun x H => Q x H) v1 v3 fs H

theorem ToA.struct {α : Type} {P : Program} {f : FuncId} {r : Rd α} {w : α → Nat} {n : Nat} (hn : r.n = n) {ty ty' : TypeId} {zero : List Value} (hz : zero.length = n) {fs : List TFld} (h : TfOK 0 r w fs)
    (enter : ∀ (Q : Post) (a : Value) (H : Heap), toStructW n ty ty' zero fs Q a H → Runs P f #[a] H Q) : ToA P f r w := by
  subst hn
  intro H bs cs x Q h1 hw hQ
  refine enter _ _ _ (Wi.box fun H1 l1 n1 k1 => Wi.new fun H2 l2 n2 k2 => Wi.new fun H3 l3 n3 k3 => ?_)
  have e1 : cs.take r.n = cs := List.take_of_length_le (by rw [r.len h1]; exact Nat.le_refl _)
  have low := r.low h1
  refine toFields_ok h ((l2.trans l3).at k1 (by omega)) (by omega) (by simp [r.len h1]) (by simpa [e1] using Rd.le _ h1 (l1.trans (l2.trans l3))) hw k3 (by omega) (by omega) (fun hm => by have := low _ hm; omega) rfl (by simp [hz]) ?_
  intro H4 c4 b4 l4 k4 r4 nd4 lo4 rw4
  have hl4 := r.len r4
  have ecells : zero.take 0 ++ c4 ++ zero.drop (0 + r.n) = c4 := by simp [hz]
  simp only [ecells] at k4
  refine Wi.getA k4 hl4 (Wi.putN (b := H1.next) (kb := ⟨zero, ty', zero.length, false⟩) (by rw [l4.blk _ (by omega) (by omega)]; exact l3.at k2 (by omega)) (by simpa using hl4) (by simpa using r.cell r4) rfl (by simp [hz]) fun H5 w5 => Wi.getN w5.here (by simp [hl4]) ?_)
  have e5 : (((zero.take 0 ++ c4.toArray.toList ++ zero.drop (0 + r.n)).drop 0).take r.n) = c4 := by simp [hl4]
  rw [e5]
  have ne : ∀ c ∈ b4, c ≠ H1.next := fun c hc e => by have := lo4 c hc; omega
  refine hQ H5 c4 ⟨⟨by rw [w5.next]; have := l4.next; have := l1.next; omega, fun c hc => ?_⟩, b4, r.frame r4 (by rw [w5.next]; exact Nat.le_refl _) (fun c hc => w5.off c (ne c hc)), nd4, fun c hc => ?_, fun c hc kc hk => rw4 c hc kc (by rw [← w5.off c (ne c hc)]; exact hk)⟩
  · have := l1.next
    rw [w5.off c (by omega), l4.blk c (by omega) (by omega), l3.blk c (by omega), l2.blk c (by omega), l1.blk c hc]
  · have := lo4 c hc
    have := l1.next
    omega

end Go.Ab

/-! Go's own slices functions, and guarded words. -/
namespace Go.Ab

section
variable {H : Heap} {k : Post} {op : Heap → Post → Prop}
theorem Wi.gT (h : op H k) : W.guarded (.bool true) true op H k := h
theorem Wi.gF (h : k undef H) : W.guarded (.bool false) true op H k := h
theorem Wi.nT (h : k undef H) : W.guarded (.bool true) false op H k := h
theorem Wi.nF (h : op H k) : W.guarded (.bool false) false op H k := h
theorem Wi.pickT {a b : Value} (h : k a H) : W.pick (.bool true) a b H k := h
theorem Wi.pickF {a b : Value} (h : k b H) : W.pick (.bool false) a b H k := h

/-- Both, the second looked at if the first holds. -/
theorem Wi.callV {P : Program} {f : FuncId} {xs cap : Array Value} (h : Runs P f (xs ++ cap) H k) : W.call P (.func (.func f) #[] cap) xs H k := by
  unfold W.call
  simpa using h
end

/-- A function value that tells whether something holds. -/
def PredF {α : Type} (P : Program) (fv : Value) (r : Rd α) (H : Heap) (p : α → Bool) : Prop :=
  ∀ H' bs u x (K : Post), H.Le H' → r.rel H' bs [u] x → (∀ H2, H'.Le H2 → K (.bool (p x)) H2) → W.call P fv #[u] H' K

def idxOf {α : Type} (p : α → Bool) (xs : List α) : Int := match xs.findIdx? p with | some i => i | none => -1

theorem idxOf_any {α : Type} (p : α → Bool) (xs : List α) : decide (0 ≤ idxOf p xs) = xs.any p := by
  unfold idxOf
  cases h : xs.findIdx? p with
  | none =>
    rw [List.findIdx?_eq_none_iff] at h
    have : xs.any p = false := by
      rw [List.any_eq_false]
      intro x hx
      simp [h x hx]
    rw [this]
    rfl
  | some i =>
    rw [List.findIdx?_eq_some_iff_getElem] at h
    obtain ⟨hi, hp, _⟩ := h
    have : xs.any p = true := List.any_eq_true.2 ⟨_, List.getElem_mem hi, hp⟩
    rw [this]
    simp

def indexFuncW (P : Program) (n : Nat) (Q : Post) (a f : Value) (H : Heap) : Prop :=
  W.len a H fun v1 H => W.loop (S := St [n]) (fun I s H => W.bin .lss s.1 v1 H fun v2 H => W.cond v2 H
    (fun H => W.indexAddr 1 a s.1 H fun v3 H => W.get v3 H fun v4 H => W.call P f #[v4] H fun v5 H => W.cond v5 H (fun H => Q s.1 H) (fun H => W.bin .add s.1 (.int .i64 1) H fun v6 H => I (v6, ()) H))
    (fun H => Q (.int .i64 (-1)) H)) (.int .i64 0, ()) H

theorem indexFunc_ok {α : Type} {P : Program} {r : Rd α} (hr : r.n = 1) {n : Nat} {Q : Post} {H : Heap} {bs : List Nat} {a fv : Value} {xs : List α} {p : α → Bool} (h : (Rd.slice r).rel H bs [a] xs) (hp : PredF P fv r H p)
    (hQ : ∀ H', H.Le H' → Q (.int .i64 (idxOf p xs)) H') : indexFuncW P n Q a fv H := by
  have hx := Rd.slice_small h
  obtain ⟨p1, e1, g1⟩ := Rd.slice_val h
  simp only [List.cons.injEq, and_true] at g1
  unfold indexFuncW
  rw [g1]
  refine Wi.len ?_
  rw [← g1]
  refine W.loop_rule (fun s H' => ∃ i : Nat, s = (.int .i64 i, ()) ∧ i ≤ xs.length ∧ H.Le H' ∧ ∀ (j : Nat) (hj : j < i) (g1 : j < xs.length), p xs[j] = false)
    (fun s _ => match s.1 with | .int _ i => xs.length - i.toNat | _ => 0) ⟨0, rfl, Nat.zero_le _, .refl _, fun j hj => by omega⟩ ?_
  rintro s H1 ⟨i, rfl, hi, hle, hno⟩
  refine Wi.lss (Wi.cond (fun hlt => ?_) fun hge => ?_)
  · have hix : i < xs.length := by simp only [decide_eq_true_eq] at hlt; omega
    obtain ⟨c1, o1, E1, k1, f1, q1, _, s1⟩ := Rd.slice_at (Rd.le _ h hle) hix
    obtain ⟨u1, m1, r1⟩ := s1.one hr hix
    rw [q1]
    refine Wi.index hix (Wi.get s1.blk m1 (hp _ _ _ _ _ hle r1 fun H2 l2 => Wi.cond (fun ht => ?_) fun hf => ?_))
    · have := hQ H2 (hle.trans l2)
      have e : idxOf p xs = i := by
        have : xs.findIdx? p = some i := List.findIdx?_eq_some_iff_getElem.2 ⟨hix, ht, fun j hj => by simp [hno j hj (by omega)]⟩
        simp [idxOf, this]
      rw [e] at this
      exact this
    · refine Wi.add (by unfold I64; omega) ⟨⟨i + 1, rfl, by omega, hle.trans l2, fun j hj g1 => ?_⟩, by simp only; omega⟩
      by_cases hji : j < i
      · exact hno j hji g1
      · have : j = i := by omega
        subst this
        exact hf
  · have : i = xs.length := by simp only [decide_eq_false_iff_not] at hge; omega
    subst this
    have e : idxOf p xs = -1 := by
      have : xs.findIdx? p = none := by
        rw [List.findIdx?_eq_none_iff]
        intro x hx
        obtain ⟨j, hj, rfl⟩ := List.mem_iff_getElem.1 hx
        exact hno j hj hj
      simp [idxOf, this]
    have := hQ H1 hle
    rw [e] at this
    exact this

def IndexF {α : Type} (P : Program) (f : FuncId) (r : Rd α) : Prop :=
  ∀ H bs a fv xs (p : α → Bool) (Q : Post), (Rd.slice r).rel H bs [a] xs → PredF P fv r H p → (∀ H', H.Le H' → Q (.int .i64 (idxOf p xs)) H') → Runs P f #[a, fv] H Q

theorem IndexF.of {α : Type} {P : Program} {f : FuncId} {r : Rd α} (hr : r.n = 1) {n : Nat} (enter : ∀ (Q : Post) (a fv : Value) (H : Heap), indexFuncW P n Q a fv H → Runs P f #[a, fv] H Q) : IndexF P f r :=
  fun _ _ _ _ _ _ _ h hp hQ => enter _ _ _ _ (indexFunc_ok hr h hp hQ)

def ContainsF {α : Type} (P : Program) (f : FuncId) (r : Rd α) : Prop :=
  ∀ H bs a fv xs (p : α → Bool) (Q : Post), (Rd.slice r).rel H bs [a] xs → PredF P fv r H p → (∀ H', H.Le H' → Q (.bool (xs.any p)) H') → Runs P f #[a, fv] H Q

def containsFuncW (P : Program) (g : FuncId) (Q : Post) (a f : Value) (H : Heap) : Prop :=
  W.call P (.func (.func g) #[] #[]) #[a, f] H fun v1 H => W.bin .geq v1 (.int .i64 0) H fun v2 H => Q v2 H

theorem ContainsF.of {α : Type} {P : Program} {f g : FuncId} {r : Rd α} (hg : IndexF P g r) (enter : ∀ (Q : Post) (a fv : Value) (H : Heap), containsFuncW P g Q a fv H → Runs P f #[a, fv] H Q) : ContainsF P f r :=
  fun _ _ _ _ _ p _ h hp hQ => enter _ _ _ _ (Wi.call (hg _ _ _ _ _ p _ h hp fun H' l => Wi.geq (by rw [idxOf_any]; exact hQ H' l)))

end Go.Ab

/-! Slices that grow by append, and writes into what a call has made. -/
namespace Go.Ab

/-- A new slice, told by its elements. -/
theorem Fresh.mk' {α : Type} {r : Rd α} {H0 H : Heap} {b n e : Nat} {kb : Blk} {xs : List α} (fs : Nat → List Nat) (l : H0.Le H) (hlt : b < H.next) (hb : H.blk b = some kb) (hro : kb.ro = false) (hn : n = xs.length)
    (hc : 2 * n ≤ e) (hs : n < 9223372036854775808) (hr : n * r.n ≤ kb.cells.length) (hb0 : H0.next ≤ b)
    (he : ∀ i (h : i < xs.length), r.rel H (fs i) (cellsAt r.n kb.cells 0 i) xs[i] ∧ (fs i).Nodup ∧ (∀ c ∈ fs i, H0.next ≤ c ∧ c ≠ b) ∧ RW H (fs i))
    (hd : ∀ i j, i < j → j < xs.length → ∀ c ∈ fs i, c ∉ fs j) : Fresh (Rd.slice r) H0 [.slice (some (adr b 0)) n e] xs H := by
  subst hn
  refine ⟨l, b :: (List.range xs.length).flatMap fs, .inr ⟨_, 0, e, kb, fs, rfl, rfl, ⟨hlt, hb, hc, hs, by omega, fun i hi => (he i hi).1⟩⟩, ?_, ?_, ?_⟩
  · refine List.nodup_cons.2 ⟨fun hm => ?_, List.pairwise_flatMap.2 ⟨fun i hi => (he i (by simpa using hi)).2.1, ?_⟩⟩
    · obtain ⟨i, hi, hc⟩ := List.mem_flatMap.1 hm
      exact ((he i (by simpa using hi)).2.2.1 _ hc).2 rfl
    · refine List.pairwise_iff_getElem.2 fun i j hi hj hij c hc d hd' hcd => ?_
      simp only [List.length_range] at hi hj
      simp only [List.getElem_range] at hc hd'
      subst hcd
      exact hd i j hij hj c hc hd'
  · intro c hc
    rcases List.mem_cons.1 hc with rfl | hc
    · exact hb0
    · obtain ⟨i, hi, hc⟩ := List.mem_flatMap.1 hc
      exact ((he i (by simpa using hi)).2.2.1 c hc).1
  · intro c hc kc hk
    rcases List.mem_cons.1 hc with rfl | hc
    · rw [hb] at hk; cases hk; exact hro
    · obtain ⟨i, hi, hc⟩ := List.mem_flatMap.1 hc
      exact (he i (by simpa using hi)).2.2.2 c hc kc hk

/-- A slice that grows: nil or of blocks from number n0 on, all its block in use. -/
structure GrN {α : Type} (r : Rd α) (ty : TypeId) (n0 : Nat) (v : Value) (xs : List α) (H : Heap) : Prop where
  low : n0 ≤ H.next
  shape : (v = .slice none 0 0 ∧ xs = []) ∨ ∃ (b e : Nat) (kb : Blk) (fs : Nat → List Nat), v = .slice (some (adr b 0)) xs.length e ∧ e / 2 = xs.length ∧ xs.length < 9223372036854775808 ∧ b < H.next ∧ H.blk b = some kb ∧ kb.ro = false ∧ kb.ty = ty ∧ kb.esz = r.n ∧
    kb.cells.length = xs.length * r.n ∧ kb.cells.all isCell = true ∧ n0 ≤ b ∧
    (∀ i (h : i < xs.length), r.rel H (fs i) (cellsAt r.n kb.cells 0 i) xs[i] ∧ (fs i).Nodup ∧ (∀ c ∈ fs i, n0 ≤ c ∧ c ≠ b) ∧ RW H (fs i)) ∧ ∀ i j, i < j → j < xs.length → ∀ c ∈ fs i, c ∉ fs j

/-- The same, all that was as it was. -/
structure Gr {α : Type} (r : Rd α) (ty : TypeId) (H0 : Heap) (v : Value) (xs : List α) (H : Heap) : Prop where
  le : H0.Le H
  gr : GrN r ty H0.next v xs H

theorem Gr.nil {α : Type} {r : Rd α} {ty : TypeId} {H0 H : Heap} (l : H0.Le H) : Gr r ty H0 (.slice none 0 0) [] H := ⟨l, l.next, .inl ⟨rfl, rfl⟩⟩

theorem GrN.put {α : Type} {r : Rd α} {ty : TypeId} {n0 : Nat} {H H1 : Heap} {v : Value} {xs : List α} (g : GrN r ty n0 v xs H) (hn : H.next ≤ H1.next) (hb : ∀ c, n0 ≤ c → c < H.next → H1.blk c = H.blk c) : GrN r ty n0 v xs H1 := by
  refine ⟨Nat.le_trans g.low hn, ?_⟩
  rcases g.shape with h | ⟨b, e, kb, fs, rfl, h1, h2, h3, h4, h5, h5', h5'', h6, h6', h7, h8, h9⟩
  · exact .inl h
  · refine .inr ⟨b, e, kb, fs, rfl, h1, h2, Nat.lt_of_lt_of_le h3 hn, by rw [hb b h7 h3]; exact h4, h5, h5', h5'', h6, h6', h7, fun i hi => ?_, h9⟩
    obtain ⟨g1, g2, g3, g4⟩ := h8 i hi
    have same : ∀ c ∈ fs i, H1.blk c = H.blk c := fun c hc => hb c (g3 c hc).1 (r.low g1 c hc)
    exact ⟨r.frame g1 hn same, g2, g3, fun c hc kc hk => g4 c hc kc (by rw [← same c hc]; exact hk)⟩

/-- What has grown reads so, its blocks from n0 on. -/
theorem GrN.has {α : Type} {r : Rd α} {ty : TypeId} {n0 : Nat} {H : Heap} {v : Value} {xs : List α} (g : GrN r ty n0 v xs H) : ∃ bs, (Rd.slice r).rel H bs [v] xs ∧ bs.Nodup ∧ (∀ c ∈ bs, n0 ≤ c) ∧ RW H bs := by
  have h : Fresh (Rd.slice r) ⟨fun c => if c < n0 then H.blk c else none, n0⟩ [v] xs H := by
    have l : Heap.Le ⟨fun c => if c < n0 then H.blk c else none, n0⟩ H := ⟨g.low, fun c hc => by simp only [] at hc ⊢; rw [if_pos hc]⟩
    rcases g.shape with ⟨rfl, rfl⟩ | ⟨b, e, kb, fs, rfl, h1, h2, h3, h4, h5, _, _, h6, _, h7, h8, h9⟩
    · exact ⟨l, [], .inl ⟨rfl, rfl, .inl rfl⟩, List.nodup_nil, (fun c hc => by cases hc), (fun c hc => by cases hc)⟩
    · exact Fresh.mk' fs l h3 h4 h5 rfl (by omega) h2 (by omega) h7 h8 h9
  exact h.has

theorem Gr.fresh {α : Type} {r : Rd α} {ty : TypeId} {H0 H : Heap} {v : Value} {xs : List α} (g : Gr r ty H0 v xs H) : Fresh (Rd.slice r) H0 [v] xs H := by
  rcases g.gr.shape with ⟨rfl, rfl⟩ | ⟨b, e, kb, fs, rfl, h1, h2, h3, h4, h5, _, _, h6, _, h7, h8, h9⟩
  · exact ⟨g.le, [], .inl ⟨rfl, rfl, .inl rfl⟩, List.nodup_nil, (fun c hc => by cases hc), (fun c hc => by cases hc)⟩
  · exact Fresh.mk' fs g.le h3 h4 h5 rfl (by omega) h2 (by omega) h7 h8 h9

theorem Gr.to {α : Type} {r : Rd α} {ty : TypeId} {H0 H H1 : Heap} {v : Value} {xs : List α} (g : Gr r ty H0 v xs H) (l : H.Le H1) : Gr r ty H0 v xs H1 := by
  refine ⟨g.le.trans l, Nat.le_trans g.gr.low l.next, ?_⟩
  rcases g.gr.shape with h | ⟨b, e, kb, fs, rfl, h1, h2, h3, h4, h5, h5', h5'', h6, h6', h7, h8, h9⟩
  · exact .inl h
  · exact .inr ⟨b, e, kb, fs, rfl, h1, h2, Nat.lt_of_lt_of_le h3 l.next, l.at h4 h3, h5, h5', h5'', h6, h6', h7, fun i hi => ⟨Rd.le _ (h8 i hi).1 l, (h8 i hi).2.1, (h8 i hi).2.2.1, (h8 i hi).2.2.2.le l (r.low (h8 i hi).1)⟩, h9⟩

/-- The empty literal. -/
theorem Gr.lit0 {α : Type} {r : Rd α} {ty : TypeId} {H0 H : Heap} {kb : Blk} {b : Nat} (l : H0.Le H) (hb : H.blk b = some kb) (hlt : b < H.next) (h0 : H0.next ≤ b) (hro : kb.ro = false) (hty : kb.ty = ty) (hsz : kb.esz = r.n) (hc : kb.cells = []) :
    Gr r ty H0 (.slice (some (adr b 0)) 0 0) [] H :=
  ⟨l, l.next, .inr ⟨b, 0, kb, fun _ => [], rfl, rfl, by simp, hlt, hb, hro, hty, hsz, by simp [hc], by simp [hc], h0, (fun i h => by simp at h), fun i j _ h => by simp at h⟩⟩

/-- All blocks but one are as they were. -/
structure Heap.LeB (H : Heap) (b : Nat) (H' : Heap) : Prop where
  next : H.next ≤ H'.next
  blk : ∀ c, c < H.next → c ≠ b → H'.blk c = H.blk c

theorem cellsAt_append_left {n : Nat} {a b : List Value} {i : Nat} (h : i * n + n ≤ a.length) : cellsAt n (a ++ b) 0 i = cellsAt n a 0 i := by
  unfold cellsAt
  rw [Nat.zero_add, List.drop_append_of_le_length (by omega), List.take_append_of_le_length (by simp; omega)]

theorem GrN.build {α : Type} {r : Rd α} {ty : TypeId} {n0 : Nat} {H : Heap} {xs zs : List α} {old new : List Value} {nb n : Nat} (hr : r.n = 1) (hb : H.blk nb = some ⟨old ++ new, ty, 1, false⟩) (hlt : nb < H.next) (h0 : n0 ≤ nb)
    (ho : old.length = xs.length) (hnew : new.length = zs.length) (hoc : old.all isCell = true) (hnc : new.all isCell = true) (hn : n = xs.length + zs.length) (hlen : n ≤ 16777216) (fs gs : Nat → List Nat)
    (hx : ∀ i (h : i < xs.length), r.rel H (fs i) (cellsAt r.n old 0 i) xs[i] ∧ (fs i).Nodup ∧ (∀ c ∈ fs i, n0 ≤ c ∧ c ≠ nb) ∧ RW H (fs i)) (hxd : ∀ i j, i < j → j < xs.length → ∀ c ∈ fs i, c ∉ fs j)
    (hz : ∀ i (h : i < zs.length) (h' : i < new.length), r.rel H (gs i) [new[i]] zs[i] ∧ (gs i).Nodup ∧ (∀ c ∈ gs i, n0 ≤ c ∧ c ≠ nb) ∧ RW H (gs i)) (hzd : ∀ i j, i < j → j < zs.length → ∀ c ∈ gs i, c ∉ gs j)
    (hxz : ∀ i j, i < xs.length → j < zs.length → ∀ c ∈ fs i, c ∉ gs j) : GrN r ty n0 (.slice (some (adr nb 0)) n (2 * n + 1)) (xs ++ zs) H := by
  subst hn
  have hl : (xs ++ zs).length = xs.length + zs.length := by simp
  refine ⟨by omega, .inr ⟨nb, _, _, fun i => if i < xs.length then fs i else gs (i - xs.length), by rw [hl], by rw [hl]; omega, by rw [hl]; omega, hlt, hb, rfl, rfl, hr.symm, by simp [hr, ho, hnew], by simp only [List.all_append, hoc, hnc, Bool.and_self], h0, fun i hi => ?_, fun i j hij hj c hc => ?_⟩⟩
  · by_cases h : i < xs.length
    · simp only [if_pos h]
      rw [List.getElem_append_left h, cellsAt_append_left (by rw [hr]; omega)]
      exact hx i h
    · simp only [if_neg h]
      have hj : i - xs.length < zs.length := by omega
      have hj' : i - xs.length < new.length := by omega
      have e : cellsAt r.n (old ++ new) 0 i = [new[i - xs.length]] := by
        rw [hr, cellsAt_one (by simp; omega)]
        simp only [Nat.zero_add, Nat.mul_one]
        rw [List.getElem_append_right (by omega)]
        simp only [ho]
      rw [List.getElem_append_right (by omega), e]
      exact hz _ hj hj'
  · by_cases h2 : j < xs.length
    · have h1 : i < xs.length := by omega
      simp only [if_pos h1] at hc
      simp only [if_pos h2]
      exact hxd i j hij h2 c hc
    · simp only [if_neg h2]
      by_cases h1 : i < xs.length
      · simp only [if_pos h1] at hc
        exact hxz i _ h1 (by omega) c hc
      · simp only [if_neg h1] at hc
        exact hzd _ _ (by omega) (by omega) c hc

/-- Some elements more; they were made behind the slice. -/
theorem GrN.append {α : Type} {r : Rd α} {ty : TypeId} {n0 : Nat} {H1 H : Heap} {v y : Value} {xs zs : List α} {new : List Value} {k : Post} (g : GrN r ty n0 v xs H1) (l : H1.Le H) (hn : r.n = 1) (hy : srcCells 1 H y = some (zs.length, new)) (hz : 0 < zs.length)
    (hnew : new.length = zs.length) (hcell : new.all isCell = true) (hlen : xs.length + zs.length ≤ 16777216) (gs : Nat → List Nat)
    (he : ∀ i (h : i < zs.length) (h' : i < new.length), r.rel H (gs i) [new[i]] zs[i] ∧ (gs i).Nodup ∧ (∀ c ∈ gs i, H1.next ≤ c) ∧ RW H (gs i)) (hd : ∀ i j, i < j → j < zs.length → ∀ c ∈ gs i, c ∉ gs j)
    (hk : ∀ H' v', GrN r ty n0 v' (xs ++ zs) H' → H.next ≤ H'.next → (∀ c, c < n0 → H'.blk c = H.blk c) → k v' H') : W.append 1 ty v y H k := by
  have lowg : ∀ i (h : i < zs.length), ∀ c ∈ gs i, c < H.next := fun i h => r.low (he i h (by omega)).1
  have l0 := g.low
  have l1 := l.next
  unfold W.append
  rw [hy]
  simp only []
  rcases g.shape with ⟨rfl, rfl⟩ | ⟨b, e, kb, fs, rfl, h1, h2, h3, h4, h5, h5', h5'', h6, h6', h7, h8, h9⟩
  · unfold appendTo
    simp only []
    rw [if_neg (by omega)]
    refine ⟨by simpa using hlen, ?_⟩
    simp only [oldCells, if_true, List.nil_append, Nat.zero_add]
    have la : H.Le (H.alloc new ty 1) := ⟨by simp [Heap.alloc], fun c hc => by simp only [Heap.alloc]; rw [if_neg (by omega)]⟩
    refine hk _ _ (GrN.build (old := []) (new := new) hn (by simp [Heap.alloc]) (by simp [Heap.alloc]) (by omega) rfl hnew rfl hcell (by simp) (by simpa using hlen) (fun _ => []) gs (fun i h => by simp at h) (fun i j _ h => by simp at h)
      (fun i h h' => ?_) hd (fun i j h => by simp at h)) (by simp [Heap.alloc]) fun c hc => la.blk c (by omega)
    obtain ⟨g1, g2, g3, g4⟩ := he i h h'
    exact ⟨Rd.le _ g1 la, g2, fun c hc => ⟨by have := g3 c hc; omega, by have := lowg i h c hc; omega⟩, g4.le la (r.low g1)⟩
  · have hbl : H.blk b = some kb := l.at h4 h3
    have hold : H.getN (adr b 0) (xs.length * 1) = some kb.cells := by
      rw [hn] at h6
      simp only [Heap.getN, hbl, Option.bind_some, Nat.zero_add, List.drop_zero]
      rw [if_pos (by omega), List.take_of_length_le (by omega)]
    have hcl : kb.cells.length = xs.length := by rw [h6, hn]; omega
    unfold appendTo
    simp only []
    rw [if_neg (by omega)]
    refine ⟨hlen, ?_⟩
    simp only [oldCells, hold]
    have lowf : ∀ i (h : i < xs.length), ∀ c ∈ fs i, c < H1.next := fun i h => r.low (h8 i h).1
    have hxz : ∀ i j, i < xs.length → j < zs.length → ∀ c ∈ fs i, c ∉ gs j := fun i j hi hj c hc hcg => by
      have := lowf i hi c hc
      have := (he j hj (by omega)).2.2.1 c hcg
      omega
    split
    · have la : H.Le (H.alloc (kb.cells ++ new) ty 1) := ⟨by simp [Heap.alloc], fun c hc => by simp only [Heap.alloc]; rw [if_neg (by omega)]⟩
      refine hk _ _ (GrN.build hn (by simp [Heap.alloc]) (by simp [Heap.alloc]) (by omega) hcl hnew h6' hcell rfl hlen fs gs (fun i h => ?_) h9 (fun i h h' => ?_) hd hxz) (by simp [Heap.alloc]) fun c hc => la.blk c (by omega)
      · obtain ⟨g1, g2, g3, g4⟩ := h8 i h
        exact ⟨Rd.le _ g1 (l.trans la), g2, fun c hc => ⟨(g3 c hc).1, by have := lowf i h c hc; omega⟩, g4.le (l.trans la) (r.low g1)⟩
      · obtain ⟨g1, g2, g3, g4⟩ := he i h h'
        exact ⟨Rd.le _ g1 la, g2, fun c hc => ⟨by have := g3 c hc; omega, by have := lowg i h c hc; omega⟩, g4.le la (r.low g1)⟩
    · refine ⟨trivial, hcell, ?_, ?_⟩
      · simp only [hbl]
        exact ⟨h5, h5', by rw [h5'', hn]⟩
      · have lb : H.LeB b ((H.setBlk b none).alloc (kb.cells ++ new) ty 1) := ⟨by simp [Heap.alloc, Heap.setBlk], fun c hc hcb => by
          have hcn : ¬ c = H.next := by omega
          simp [Heap.alloc, Heap.setBlk, hcb, hcn]⟩
        refine hk _ _ (GrN.build hn (by simp [Heap.alloc, Heap.setBlk]) (by simp [Heap.alloc, Heap.setBlk]) (by omega) hcl hnew h6' hcell rfl hlen fs gs (fun i h => ?_) h9 (fun i h h' => ?_) hd hxz) lb.next fun c hc => lb.blk c (by omega) (by omega)
        · obtain ⟨g1, g2, g3, g4⟩ := h8 i h
          have ne : ∀ c ∈ fs i, c ≠ b := fun c hc => (g3 c hc).2
          have g1' := Rd.le _ g1 l
          have g4' := g4.le l (r.low g1)
          exact ⟨r.frame g1' lb.next fun c hc => lb.blk c (r.low g1' c hc) (ne c hc), g2, fun c hc => ⟨(g3 c hc).1, by have := lowf i h c hc; omega⟩, fun c hc kc hk => g4' c hc kc (by rw [← lb.blk c (r.low g1' c hc) (ne c hc)]; exact hk)⟩
        · obtain ⟨g1, g2, g3, g4⟩ := he i h h'
          have ne : ∀ c ∈ gs i, c ≠ b := fun c hc e => by have := g3 c hc; omega
          exact ⟨r.frame g1 lb.next fun c hc => lb.blk c (r.low g1 c hc) (ne c hc), g2, fun c hc => ⟨by have := g3 c hc; omega, by have := lowg i h c hc; omega⟩, fun c hc kc hk => g4 c hc kc (by rw [← lb.blk c (r.low g1 c hc) (ne c hc)]; exact hk)⟩

/-- The same for what keeps what was. -/
theorem Gr.append {α : Type} {r : Rd α} {ty : TypeId} {H0 H1 H : Heap} {v y : Value} {xs zs : List α} {new : List Value} {k : Post} (g : Gr r ty H0 v xs H1) (l : H1.Le H) (hn : r.n = 1) (hy : srcCells 1 H y = some (zs.length, new)) (hz : 0 < zs.length)
    (hnew : new.length = zs.length) (hcell : new.all isCell = true) (hlen : xs.length + zs.length ≤ 16777216) (gs : Nat → List Nat)
    (he : ∀ i (h : i < zs.length) (h' : i < new.length), r.rel H (gs i) [new[i]] zs[i] ∧ (gs i).Nodup ∧ (∀ c ∈ gs i, H1.next ≤ c) ∧ RW H (gs i)) (hd : ∀ i j, i < j → j < zs.length → ∀ c ∈ gs i, c ∉ gs j)
    (hk : ∀ H' v', Gr r ty H0 v' (xs ++ zs) H' → H.next ≤ H'.next → k v' H') : W.append 1 ty v y H k :=
  g.gr.append l hn hy hz hnew hcell hlen gs he hd fun H' v' g' hn' hb => hk H' v' ⟨⟨Nat.le_trans (g.le.trans l).next hn', fun c hc => by rw [hb c hc, (g.le.trans l).blk c hc]⟩, g'⟩ hn'

/-- One element more. -/
theorem GrN.push {α : Type} {r : Rd α} {ty : TypeId} {n0 : Nat} {H1 H2 H : Heap} {v u : Value} {x : α} {xs : List α} {k : Post} {yb e : Nat} {ty' : TypeId} {es : Nat} (g : GrN r ty n0 v xs H1) (hn : r.n = 1) (f : Fresh r H1 [u] x H2) (l : H2.Le H)
    (hy : H.blk yb = some ⟨[u], ty', es, false⟩) (hlen : xs.length < 16777216) (hk : ∀ H' v', GrN r ty n0 v' (xs ++ [x]) H' → H.next ≤ H'.next → (∀ c, c < n0 → H'.blk c = H.blk c) → k v' H') : W.append 1 ty v (.slice (some (adr yb 0)) 1 e) H k := by
  obtain ⟨bs, p1, p2, p3, p4⟩ := f.has
  have hs : srcCells 1 H (.slice (some (adr yb 0)) 1 e) = some (([x] : List α).length, [u]) := by
    simp [srcCells, Heap.getN, hy]
  refine g.append (zs := [x]) (f.le.trans l) hn hs (by simp) rfl (r.cell p1) (by simp; omega) (fun _ => bs) (fun i h h' => ?_) (fun i j h1 h2 => by simp at h2; omega) hk
  have : i = 0 := by simp at h; omega
  subst this
  exact ⟨Rd.le _ p1 l, p2, p3, p4.le l (r.low p1)⟩

/-- The same for what keeps what was. -/
theorem Gr.push {α : Type} {r : Rd α} {ty : TypeId} {H0 H1 H2 H : Heap} {v u : Value} {x : α} {xs : List α} {k : Post} {yb e : Nat} {ty' : TypeId} {es : Nat} (g : Gr r ty H0 v xs H1) (hn : r.n = 1) (f : Fresh r H1 [u] x H2) (l : H2.Le H)
    (hy : H.blk yb = some ⟨[u], ty', es, false⟩) (hlen : xs.length < 16777216) (hk : ∀ H' v', Gr r ty H0 v' (xs ++ [x]) H' → H.next ≤ H'.next → k v' H') : W.append 1 ty v (.slice (some (adr yb 0)) 1 e) H k :=
  g.gr.push hn f l hy hlen fun H' v' g' hn' hb => hk H' v' ⟨⟨Nat.le_trans (g.le.trans (f.le.trans l)).next hn', fun c hc => by rw [hb c hc, (g.le.trans (f.le.trans l)).blk c hc]⟩, g'⟩ hn'

end Go.Ab

/-! Writes into slices and structs. -/
namespace Go.Ab

theorem Marked.refl {α : Type} {r : Rd α} {H : Heap} {bs : List Nat} {cs : List Value} {x : α} (h : r.rel H bs cs x) (hrw : RW H bs) : Marked r H bs cs x H := ⟨Nat.le_refl _, h, fun _ _ _ => rfl, hrw⟩

theorem Marked.trans {α : Type} {r : Rd α} {H H1 H2 : Heap} {bs : List Nat} {cs : List Value} {x y : α} (m : Marked r H bs cs x H1) (m2 : Marked r H1 bs cs y H2) : Marked r H bs cs y H2 :=
  ⟨Nat.le_trans m.next m2.next, m2.rel, fun c hc hcb => by rw [m2.off c (Nat.lt_of_lt_of_le hc m.next) hcb, m.off c hc hcb], m2.rw⟩

theorem Marked.le {α : Type} {r : Rd α} {H H1 H2 : Heap} {bs : List Nat} {cs : List Value} {x : α} (m : Marked r H bs cs x H1) (l : H1.Le H2) : Marked r H bs cs x H2 :=
  ⟨Nat.le_trans m.next l.next, Rd.le _ m.rel l, fun c hc hcb => by rw [l.blk c (Nat.lt_of_lt_of_le hc m.next), m.off c hc hcb], m.rw.le l (r.low m.rel)⟩

/-- What was made, written. -/
theorem Fresh.upd {α : Type} {r : Rd α} {H0 H H' : Heap} {bs : List Nat} {cs : List Value} {x : α} (l : H0.Le H) (h2 : bs.Nodup) (h3 : ∀ c ∈ bs, H0.next ≤ c) (m : Marked r H bs cs x H') : Fresh r H0 cs x H' :=
  ⟨⟨Nat.le_trans l.next m.next, fun c hc => by rw [m.off c (Nat.lt_of_lt_of_le hc l.next) fun hb => by have := h3 c hb; omega, l.blk c hc]⟩, bs, m.rel, h2, h3, m.rw⟩

/-- One number of a list, written. -/
theorem Wi.setInt {H : Heap} {bs : List Nat} {v : Value} {xs : List Int} {i : Nat} {y : Int} {κ : IntKind} {K : Post} (h : (Rd.slice Rd.int).rel H bs [v] xs) (hrw : RW H bs) (hi : i < xs.length) (hy : I64 y)
    (hK : ∀ H', Marked (Rd.slice Rd.int) H bs [v] (xs.set i y) H' → K undef H') : W.indexAddr 1 v (.int κ i) H fun p H => W.put p (.int .i64 y) H K := by
  obtain ⟨b, o, e, kb, fs, q1, q2, s⟩ := Rd.slice_at h hi
  have hin := s.in hi
  simp only [Rd.int] at hin
  rw [q1]
  refine Wi.index hi (Wi.put s.blk rfl (hrw b (by rw [q2]; simp) kb s.blk) (by omega) fun H' w => ?_)
  have hfs : ∀ j (hj : j < xs.length), fs j = [] := fun j hj => (s.each j hj).1
  have hbs : ∀ c ∈ bs, c = b := fun c hc => by
    rw [q2, List.mem_cons, List.mem_flatMap] at hc
    rcases hc with h | ⟨j, hj, hc⟩
    · exact h
    · rw [hfs j (by simpa using hj)] at hc; cases hc
  refine hK H' ⟨by rw [w.next]; exact Nat.le_refl _, .inr ⟨b, o, e, _, fs, by rw [q2, List.length_set], by rw [List.length_set]; first | done | rw [q1], ⟨by rw [w.next]; exact s.lt, w.here, by rw [List.length_set]; exact s.cap, by rw [List.length_set]; exact s.small, by
      rw [List.length_set]; simpa using s.room, fun j hj => ?_⟩⟩, fun c hc hcb => w.off c fun e => hcb (by rw [e, q2]; simp), fun c hc kc hk => ?_⟩
  · rw [List.length_set] at hj
    have := s.each j hj
    obtain ⟨g1, g2, g3⟩ := this
    have hinj := s.in hj
    simp only [Rd.int] at hinj
    refine ⟨g1, ?_, ?_⟩
    · have g2' : cellsAt 1 kb.cells o j = [.int .i64 xs[j]] := g2
      show cellsAt 1 _ o j = _
      rw [cellsAt_one (by simp; omega)]
      rw [cellsAt_one (by omega)] at g2'
      simp only [List.cons.injEq, and_true] at g2'
      rw [List.getElem_set, List.getElem_set]
      by_cases hij : i = j
      · subst hij; simp
      · rw [if_neg (by omega), if_neg hij, g2']
    · rw [List.getElem_set]
      split
      · exact hy
      · exact g3
  · rw [hbs c hc, w.here] at hk
    cases hk
    exact hrw b (by rw [q2]; simp) kb s.blk

/-- One row of a list of rows, written. -/
theorem Marked.elem {α : Type} {r : Rd α} (hr : r.n = 1) {H : Heap} {bs : List Nat} {v : Value} {xs : List α} (h : (Rd.slice r).rel H bs [v] xs) (hnd : bs.Nodup) (hrw : RW H bs) {i : Nat} (hi : i < xs.length) :
    ∃ b o e kb u fi, v = .slice (some (adr b o)) xs.length e ∧ H.blk b = some kb ∧ kb.cells[o + i * 1]? = some u ∧ r.rel H fi [u] xs[i] ∧ fi.Nodup ∧ RW H fi ∧ (∀ c ∈ fi, c ∈ bs) ∧
      ∀ H' y, Marked r H fi [u] y H' → Marked (Rd.slice r) H bs [v] (xs.set i y) H' := by
  obtain ⟨b, o, e, kb, fs, q1, q2, s⟩ := Rd.slice_at h hi
  obtain ⟨u, hu, hru⟩ := s.one hr hi
  have hbnd := hnd
  rw [q2] at hbnd
  have hbn := List.nodup_cons.1 hbnd
  have hmem : ∀ j, j < xs.length → ∀ c ∈ fs j, c ∈ bs := fun j hj c hc => by rw [q2]; exact List.mem_cons_of_mem _ (List.mem_flatMap.2 ⟨j, by simpa using hj, hc⟩)
  have hnb : ∀ j, j < xs.length → b ∉ fs j := fun j hj hc => hbn.1 (List.mem_flatMap.2 ⟨j, by simpa using hj, hc⟩)
  refine ⟨b, o, e, kb, u, fs i, q1, s.blk, hu, hru, (flat_nodup hbn.2 hi hi).1, fun c hc => hrw c (hmem i hi c hc), hmem i hi, fun H' y m => ?_⟩
  have hbk : H'.blk b = some kb := by rw [m.off b s.lt (hnb i hi)]; exact s.blk
  refine ⟨m.next, .inr ⟨b, o, e, kb, fs, by rw [q2, List.length_set], by rw [List.length_set]; first | done | rw [q1], ⟨Nat.lt_of_lt_of_le s.lt m.next, hbk, by rw [List.length_set]; exact s.cap, by rw [List.length_set]; exact s.small, by
      rw [List.length_set]; exact s.room, fun j hj => ?_⟩⟩, fun c hc hcb => m.off c hc fun h => hcb (hmem i hi c h), fun c hc kc hk => ?_⟩
  · rw [List.length_set] at hj
    by_cases hij : i = j
    · subst hij
      have e1 : cellsAt r.n kb.cells o i = [u] := by
        have hin := s.in hi
        rw [hr] at hin ⊢
        rw [cellsAt_one (by omega)]
        rw [List.getElem?_eq_getElem (by omega)] at hu
        simpa using hu
      rw [e1]
      simp only [List.getElem_set_self]
      exact m.rel
    · rw [List.getElem_set_ne hij]
      refine r.frame (s.each j hj) m.next fun c hc => m.off c (r.low (s.each j hj) c hc) fun hci => ?_
      exact (flat_nodup hbn.2 hi hj).2 hij c hci hc
  · by_cases hci : c ∈ fs i
    · exact m.rw c hci kc hk
    · rw [m.off c ((Rd.slice r).low h c hc) hci] at hk
      exact hrw c hc kc hk

end Go.Ab
