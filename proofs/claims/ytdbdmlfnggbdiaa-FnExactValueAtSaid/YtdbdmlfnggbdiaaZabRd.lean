/- Readings: what a value on the abstract heap stands for; and how a proof goes through the words. -/
import Derived.Test.YtdbdmlfnggbdiaaZabCode
namespace Go.Ab

/-! ### Going through the words -/
section
variable {H : Heap} {k : Post}

abbrev adr (b : Nat) (o : Nat) : Addr := ⟨b, o, none⟩
abbrev pt (b : Nat) (o : Nat) : Value := .pointer (some ⟨b, o, none⟩)

theorem Wi.call {P : Program} {f : FuncId} {xs : Array Value} (h : Runs P f xs H k) : W.call P (.func (.func f) #[] #[]) xs H k := by
  unfold W.call
  simpa using h

theorem Wi.callQ {P : Program} {f : FuncId} {xs : Array Value} (h : Runs P f xs H (fun v H' => H.Le H' ∧ k v H')) : W.callQ P (.func (.func f) #[] #[]) xs H k := Wi.call h

theorem Wi.new {cells : List Value} {ty : TypeId} (h : ∀ H', H.Le H' → H'.next = H.next + 1 → H'.blk H.next = some ⟨cells, ty, cells.length, false⟩ → k (pt H.next 0) H') : W.new cells ty H k :=
  h _ ⟨by simp [Heap.alloc], fun b hb => by simp only [Heap.alloc]; rw [if_neg (by omega)]⟩ rfl (by simp [Heap.alloc])

theorem Wi.box {vs : Array Value} {ty : TypeId} (h : ∀ H', H.Le H' → H'.next = H.next + 1 → H'.blk H.next = some ⟨vs.toList, ty, vs.size, false⟩ → k (pt H.next 0) H') : W.box (.agg vs) ty H k :=
  h _ ⟨by simp [Heap.alloc], fun b hb => by simp only [Heap.alloc]; rw [if_neg (by omega)]⟩ rfl (by simp [Heap.alloc])

theorem Wi.box1 {v : Value} {ty : TypeId} (hc : isCell v = true) (h : ∀ H', H.Le H' → H'.next = H.next + 1 → H'.blk H.next = some ⟨[v], ty, 1, false⟩ → k (pt H.next 0) H') : W.box v ty H k := by
  have := h (H.alloc [v] ty 1) ⟨by simp [Heap.alloc], fun b hb => by simp only [Heap.alloc]; rw [if_neg (by omega)]⟩ rfl (by simp [Heap.alloc])
  cases v <;> first | exact ⟨hc, this⟩ | (simp [isCell] at hc)

theorem Wi.lit {n : Nat} {zc cells : List Value} {ty : TypeId} {parts : List (Nat × Nat × Value)} (hf : fillA (reps n zc) parts = some cells)
    (h : ∀ H', H.Le H' → H'.next = H.next + 1 → H'.blk H.next = some ⟨cells, ty, zc.length, false⟩ → k (.slice (some (adr H.next 0)) n (2 * n)) H') : W.lit n zc ty parts H k := by
  unfold W.lit
  rw [hf]
  exact h _ ⟨by simp [Heap.alloc], fun b hb => by simp only [Heap.alloc]; rw [if_neg (by omega)]⟩ rfl (by simp [Heap.alloc])

theorem Wi.make {n : Nat} {zc : List Value} {ty : TypeId} {κ κ' : IntKind} (hn : n ≤ 1073741824)
    (h : ∀ H', H.Le H' → H'.next = H.next + 1 → H'.blk H.next = some ⟨reps n zc, ty, zc.length, false⟩ → k (.slice (some (adr H.next 0)) n (2 * n)) H') : W.make zc ty (.int κ n) (.int κ' n) H k := by
  unfold W.make
  refine ⟨by omega, by omega, by omega, ?_⟩
  exact h _ ⟨by simp [Heap.alloc], fun b hb => by simp only [Heap.alloc]; rw [if_neg (by omega)]⟩ rfl (by simp [Heap.alloc])

theorem Wi.build {zero cells : List Value} {parts : List (Nat × Nat × Value)} (hf : fillA zero parts = some cells) (h : k (.agg cells.toArray) H) : W.build zero parts H k := by
  unfold W.build
  rw [hf]; exact h

theorem adr_add (b o n : Nat) : (adr b o).add n = adr b (o + n) := by
  unfold Addr.add
  split
  · rename_i h; simp [adr, h]
  · rfl

theorem Wi.fieldAddr {b o off : Nat} (h : k (pt b (o + off)) H) : W.fieldAddr off (pt b o) H k := by
  unfold W.fieldAddr
  simp only [adr_add]
  exact h

theorem Wi.get {b o : Nat} {kb : Blk} {v : Value} (hb : H.blk b = some kb) (hv : kb.cells[o]? = some v) (h : k v H) : W.get (pt b o) H k := by
  simp only [W.get, Heap.get, hb, Option.bind_some, hv]; exact h

theorem Wi.getN {n b o : Nat} {kb : Blk} (hb : H.blk b = some kb) (hn : o + n ≤ kb.cells.length) (h : k (.agg ((kb.cells.drop o).take n).toArray) H) : W.getN n (pt b o) H k := by
  simp only [W.getN, Heap.getN, hb, Option.bind_some, if_pos hn]; exact h

/-- One block written, all else as it was. -/
structure Heap.Wr (H : Heap) (b : Nat) (kb : Blk) (H' : Heap) : Prop where
  next : H'.next = H.next
  here : H'.blk b = some kb
  off : ∀ c, c ≠ b → H'.blk c = H.blk c

theorem Wi.put {b o : Nat} {kb : Blk} {v : Value} (hb : H.blk b = some kb) (hc : isCell v = true) (hro : kb.ro = false) (hlt : o < kb.cells.length)
    (h : ∀ H', H.Wr b { kb with cells := kb.cells.set o v } H' → k undef H') : W.put (pt b o) v H k := by
  simp only [W.put, Heap.set, hb, hc, hro, Bool.not_false, Bool.and_true, hlt, decide_true, if_true]
  exact h _ ⟨rfl, by simp [Heap.setBlk, hro], fun c hc => by simp [Heap.setBlk, hc]⟩

theorem Wi.putN {n b o : Nat} {kb : Blk} {vs : Array Value} (hb : H.blk b = some kb) (hs : vs.size = n) (hc : vs.toList.all isCell = true) (hro : kb.ro = false) (hlt : o + n ≤ kb.cells.length)
    (h : ∀ H', H.Wr b { kb with cells := kb.cells.take o ++ vs.toList ++ kb.cells.drop (o + n) } H' → k undef H') : W.putN n (pt b o) (.agg vs) H k := by
  have hl : vs.toList.length = n := by simpa using hs
  simp only [W.putN, Heap.setN, hb, hc, hro, hs, hl, hlt, Bool.not_false, Bool.and_true, decide_true, if_true]
  exact h _ ⟨rfl, by simp [Heap.setBlk, hro], fun c hc => by simp [Heap.setBlk, hc]⟩

theorem Wi.len {a : Option Addr} {n e : Nat} (h : k (.int .i64 n) H) : W.len (.slice a n e) H k := h
theorem Wi.index {b o n e sz i : Nat} {κ : IntKind} (hi : i < n) (h : k (pt b (o + i * sz)) H) : W.indexAddr sz (.slice (some (adr b o)) n e) (.int κ (i : Int)) H k :=
  ⟨by omega, by omega, by rw [Int.toNat_natCast, adr_add]; exact h⟩
theorem Wi.pick {t : Bool} {a b : Value} (h : k (if t then a else b) H) : W.pick (.bool t) a b H k := h
theorem Wi.not {b : Bool} (h : k (.bool !b) H) : W.un .not (.bool b) H k := h
theorem Wi.lss {κ : IntKind} {a b : Int} (h : k (.bool (decide (a < b))) H) : W.bin .lss (.int κ a) (.int κ b) H k := by simpa [W.bin, binEval, intEval] using h
theorem Wi.geq {κ : IntKind} {a b : Int} (h : k (.bool (decide (b ≤ a))) H) : W.bin .geq (.int κ a) (.int κ b) H k := by simpa [W.bin, binEval, intEval] using h
theorem Wi.leq {κ : IntKind} {a b : Int} (h : k (.bool (decide (a ≤ b))) H) : W.bin .leq (.int κ a) (.int κ b) H k := by simpa [W.bin, binEval, intEval] using h
theorem Wi.gtr {κ : IntKind} {a b : Int} (h : k (.bool (decide (b < a))) H) : W.bin .gtr (.int κ a) (.int κ b) H k := by simpa [W.bin, binEval, intEval] using h
theorem Wi.eql {κ : IntKind} {a b : Int} (h : k (.bool (a == b)) H) : W.bin .eql (.int κ a) (.int κ b) H k := by simpa [W.bin, binEval, intEval] using h
theorem Wi.neq {κ : IntKind} {a b : Int} (h : k (.bool (a != b)) H) : W.bin .neq (.int κ a) (.int κ b) H k := by simpa [W.bin, binEval, intEval] using h

/-- A 64-bit number. -/
def I64 (n : Int) : Prop := -9223372036854775808 ≤ n ∧ n < 9223372036854775808

theorem wrap_id {n : Int} (h : I64 n) : IntKind.i64.wrap n = n := by
  unfold I64 at h
  simp only [IntKind.wrap, IntKind.signed, IntKind.bits]
  simp
  split <;> omega

theorem Wi.add {a b : Int} (hw : I64 (a + b)) (h : k (.int .i64 (a + b)) H) : W.bin .add (.int .i64 a) (.int .i64 b) H k := by
  simpa [W.bin, binEval, intEval, wrap_id hw] using h
theorem Wi.sub {a b : Int} (hw : I64 (a - b)) (h : k (.int .i64 (a - b)) H) : W.bin .sub (.int .i64 a) (.int .i64 b) H k := by
  simpa [W.bin, binEval, intEval, wrap_id hw] using h
theorem Wi.mul {a b : Int} (hw : I64 (a * b)) (h : k (.int .i64 (a * b)) H) : W.bin .mul (.int .i64 a) (.int .i64 b) H k := by
  simpa [W.bin, binEval, intEval, wrap_id hw] using h
theorem Wi.neg {a : Int} (hw : I64 (-a)) (h : k (.int .i64 (-a)) H) : W.un .neg (.int .i64 a) H k := by
  simpa [W.un, unEval, wrap_id hw] using h

theorem Wi.tru {A B : Heap → Prop} (h : A H) : W.cond (.bool true) H A B := h
theorem Wi.fls {A B : Heap → Prop} (h : B H) : W.cond (.bool false) H A B := h
theorem Wi.cond {b : Bool} {A B : Heap → Prop} (h1 : b = true → A H) (h2 : b = false → B H) : W.cond (.bool b) H A B := by
  cases b
  · exact h2 rfl
  · exact h1 rfl
theorem Wi.eqBool {a b : Bool} (h : k (.bool (a == b)) H) : W.eqBool .eql (.bool a) (.bool b) H k := h
theorem Wi.neqBool {a b : Bool} (h : k (.bool !(a == b)) H) : W.eqBool .neq (.bool a) (.bool b) H k := h
end

theorem Heap.Wr.le {H H1 H2 : Heap} {b : Nat} {kb : Blk} (h : H1.Wr b kb H2) (l : H.Le H1) (hb : H.next ≤ b) : H.Le H2 :=
  ⟨by rw [h.next]; exact l.next, fun c hc => by rw [h.off c (by omega)]; exact l.blk c hc⟩

theorem Heap.Le.at {H H' : Heap} (l : H.Le H') {b : Nat} {kb : Blk} (h : H.blk b = some kb) (hb : b < H.next) : H'.blk b = some kb := by rw [l.blk b hb]; exact h

/-! ### Readings -/

/-- How a run of cells reads: its blocks, its cells, what they stand for. -/
structure Rd (α : Type) where
  n : Nat
  rel : Heap → List Nat → List Value → α → Prop
  len : ∀ {H bs cs x}, rel H bs cs x → cs.length = n
  cell : ∀ {H bs cs x}, rel H bs cs x → cs.all isCell = true
  low : ∀ {H bs cs x}, rel H bs cs x → ∀ b ∈ bs, b < H.next
  frame : ∀ {H H' bs cs x}, rel H bs cs x → H.next ≤ H'.next → (∀ b ∈ bs, H'.blk b = H.blk b) → rel H' bs cs x

theorem Rd.le {α : Type} (r : Rd α) {H H' : Heap} {bs : List Nat} {cs : List Value} {x : α} (h : r.rel H bs cs x) (l : H.Le H') : r.rel H' bs cs x :=
  r.frame h l.next fun b hb => l.blk b (r.low h b hb)

def Rd.int : Rd Int where
  n := 1
  rel := fun _ bs cs x => bs = [] ∧ cs = [.int .i64 x] ∧ I64 x
  len := fun h => by rw [h.2.1]; rfl
  cell := fun h => by rw [h.2.1]; rfl
  low := fun h b hb => by rw [h.1] at hb; cases hb
  frame := fun h _ _ => h

def Rd.bool : Rd Bool where
  n := 1
  rel := fun _ bs cs x => bs = [] ∧ cs = [.bool x]
  len := fun h => by rw [h.2]; rfl
  cell := fun h => by rw [h.2]; rfl
  low := fun h b hb => by rw [h.1] at hb; cases hb
  frame := fun h _ _ => h

def Rd.pair {α β : Type} (r : Rd α) (s : Rd β) : Rd (α × β) where
  n := r.n + s.n
  rel := fun H bs cs x => ∃ b1 b2 c1 c2, bs = b1 ++ b2 ∧ cs = c1 ++ c2 ∧ r.rel H b1 c1 x.1 ∧ s.rel H b2 c2 x.2
  len := fun ⟨_, _, _, _, _, h, h1, h2⟩ => by rw [h, List.length_append, r.len h1, s.len h2]
  cell := fun ⟨_, _, _, _, _, h, h1, h2⟩ => by rw [h, List.all_append, r.cell h1, s.cell h2]; rfl
  low := fun ⟨_, _, _, _, h, _, h1, h2⟩ b hb => by
    rw [h, List.mem_append] at hb
    exact hb.elim (r.low h1 b) (s.low h2 b)
  frame := fun ⟨b1, b2, c1, c2, h, h', h1, h2⟩ hn hb =>
    ⟨b1, b2, c1, c2, h, h', r.frame h1 hn fun b hm => hb b (by rw [h]; exact List.mem_append_left _ hm), s.frame h2 hn fun b hm => hb b (by rw [h]; exact List.mem_append_right _ hm)⟩

/-- The cells of the i-th element. -/
def cellsAt (n : Nat) (cells : List Value) (o i : Nat) : List Value := (cells.drop (o + i * n)).take n

/-- A slice that lies in a block. -/
structure SlAt {α : Type} (r : Rd α) (H : Heap) (b o e : Nat) (kb : Blk) (fs : Nat → List Nat) (xs : List α) : Prop where
  lt : b < H.next
  blk : H.blk b = some kb
  cap : 2 * xs.length ≤ e
  small : xs.length < 9223372036854775808
  room : o + xs.length * r.n ≤ kb.cells.length
  each : ∀ i (h : i < xs.length), r.rel H (fs i) (cellsAt r.n kb.cells o i) xs[i]

def Rd.slice {α : Type} (r : Rd α) : Rd (List α) where
  n := 1
  rel := fun H bs cs xs => (xs = [] ∧ bs = [] ∧ (cs = [.slice none 0 0] ∨ cs = [.slice none 0 1] ∨ ∃ a, cs = [.slice (some a) 0 0])) ∨
    ∃ b o e kb fs, bs = b :: (List.range xs.length).flatMap fs ∧ cs = [.slice (some (adr b o)) xs.length e] ∧ SlAt r H b o e kb fs xs
  len := fun h => by rcases h with ⟨_, _, h | h | ⟨a, h⟩⟩ | ⟨b, o, e, kb, fs, _, h, _⟩ <;> rw [h] <;> rfl
  cell := fun h => by rcases h with ⟨_, _, h | h | ⟨a, h⟩⟩ | ⟨b, o, e, kb, fs, _, h, _⟩ <;> rw [h] <;> rfl
  low := fun h c hc => by
    rcases h with ⟨_, h, _⟩ | ⟨b, o, e, kb, fs, h, _, s⟩
    · rw [h] at hc; cases hc
    · rw [h, List.mem_cons, List.mem_flatMap] at hc
      rcases hc with rfl | ⟨i, hi, hc⟩
      · exact s.lt
      · exact r.low (s.each i (by simpa using hi)) c hc
  frame := fun h hn hb => by
    rcases h with h | ⟨b, o, e, kb, fs, h, h', s⟩
    · exact .inl h
    · refine .inr ⟨b, o, e, kb, fs, h, h', Nat.lt_of_lt_of_le s.lt hn, ?_, s.cap, s.small, s.room, fun i hi => r.frame (s.each i hi) hn fun c hc => hb c ?_⟩
      · rw [hb b (by rw [h]; simp)]; exact s.blk
      · rw [h, List.mem_cons, List.mem_flatMap]
        exact .inr ⟨i, by simpa using hi, hc⟩

theorem Wi.chk {g : Heap → Post → Prop} {v : Value} {H : Heap} {rest : Prop} (h1 : g H (fun v' H' => v' = v ∧ H' = H)) (h2 : rest) : W.chk g v H rest := ⟨h1, h2⟩

end Go.Ab
