/- Readings: what a value on the abstract heap stands for; and how a proof goes through the words. -/
import Derived.Test.YtgdiebnokgnniaaGreatDoorZabG2
namespace Go.Ab

/-! ### Going through the words -/
section
variable {H : Heap} {k : Post}

abbrev adr (b : Nat) (o : Nat) : Addr := ⟨b, o, none⟩
abbrev pt (b : Nat) (o : Nat) : Value := .pointer (some ⟨b, o, none⟩)

theorem Wi.call {P : Program} {f : FuncId} {xs : Array Value} (h : Runs P f xs H k) : W.call P (.func (.func f) #[] #[]) xs H k := by
  unfold W.call
  simpa using h

theorem Wi.callQ {P : Program} {f : FuncId} {xs : Array Value} (h : Runs P f xs H (fun v H' => H.Le H' ∧ k v H')) : W.callQ P (.func (.func f) #[] #[]) xs H k := Wi.call h

theorem Wi.new {cells : List Value} {ty : TypeId} (h : ∀ H', H.Le H' → H'.next = H.next + 1 → H'.blk H.next = some ⟨cells, ty, cells.length, false⟩ → k (pt H.next 0) H') : W.new cells ty H k :=
  h _ ⟨by simp [Heap.alloc], fun b hb => by simp only [Heap.alloc]; rw [if_neg (by omega)]⟩ rfl (by simp [Heap.alloc])

theorem Wi.box {vs : Array Value} {ty : TypeId} (h : ∀ H', H.Le H' → H'.next = H.next + 1 → H'.blk H.next = some ⟨vs.toList, ty, vs.size, false⟩ → k (pt H.next 0) H') : W.box (.agg vs) ty H k :=
  h _ ⟨by simp [Heap.alloc], fun b hb => by simp only [Heap.alloc]; rw [if_neg (by omega)]⟩ rfl (by simp [Heap.alloc])

theorem Wi.box1 {v : Value} {ty : TypeId} (hc : isCell v = true) (h : ∀ H', H.Le H' → H'.next = H.next + 1 → H'.blk H.next = some ⟨[v], ty, 1, false⟩ → k (pt H.next 0) H') : W.box v ty H k := by
  have := h (H.alloc [v] ty 1) ⟨by simp [Heap.alloc], fun b hb => by simp only [Heap.alloc]; rw [if_neg (by omega)]⟩ rfl (by simp [Heap.alloc])
  cases v <;> first | exact ⟨hc, this⟩ | (simp [isCell] at hc)

theorem Wi.lit {n : Nat} {zc cells : List Value} {ty : TypeId} {parts : List (Nat × Nat × Value)} (hf : fillA (reps n zc) parts = some cells)
    (h : ∀ H', H.Le H' → H'.next = H.next + 1 → H'.blk H.next = some ⟨cells, ty, zc.length, false⟩ → k (.slice (some (adr H.next 0)) n (2 * n)) H') : W.lit n zc ty parts H k := by
  unfold W.lit
  rw [hf]
  exact h _ ⟨by simp [Heap.alloc], fun b hb => by simp only [Heap.alloc]; rw [if_neg (by omega)]⟩ rfl (by simp [Heap.alloc])

theorem Wi.make {n : Nat} {zc : List Value} {ty : TypeId} {κ κ' : IntKind} (hn : n ≤ 17179869184)
    (h : ∀ H', H.Le H' → H'.next = H.next + 1 → H'.blk H.next = some ⟨reps n zc, ty, zc.length, false⟩ → k (.slice (some (adr H.next 0)) n (2 * n)) H') : W.make zc ty (.int κ n) (.int κ' n) H k := by
  unfold W.make
  refine ⟨by omega, by omega, by omega, ?_⟩
  exact h _ ⟨by simp [Heap.alloc], fun b hb => by simp only [Heap.alloc]; rw [if_neg (by omega)]⟩ rfl (by simp [Heap.alloc])

theorem Wi.build {zero cells : List Value} {parts : List (Nat × Nat × Value)} (hf : fillA zero parts = some cells) (h : k (.agg cells.toArray) H) : W.build zero parts H k := by
  unfold W.build
  rw [hf]; exact h

theorem adr_add (b o n : Nat) : (adr b o).add n = adr b (o + n) := by
  unfold Addr.add
  split
  · rename_i h; simp [adr, h]
  · rfl

theorem Wi.fieldAddr {b o off : Nat} (h : k (pt b (o + off)) H) : W.fieldAddr off (pt b o) H k := by
  unfold W.fieldAddr
  simp only [adr_add]
  exact h

theorem Wi.get {b o : Nat} {kb : Blk} {v : Value} (hb : H.blk b = some kb) (hv : kb.cells[o]? = some v) (h : k v H) : W.get (pt b o) H k := by
  simp only [W.get, Heap.get, hb, Option.bind_some, hv]; exact h

theorem Wi.getN {n b o : Nat} {kb : Blk} (hb : H.blk b = some kb) (hn : o + n ≤ kb.cells.length) (h : k (.agg ((kb.cells.drop o).take n).toArray) H) : W.getN n (pt b o) H k := by
  simp only [W.getN, Heap.getN, hb, Option.bind_some, if_pos hn]; exact h

/-- One block written, all else as it was. -/
structure Heap.Wr (H : Heap) (b : Nat) (kb : Blk) (H' : Heap) : Prop where
  next : H'.next = H.next
  here : H'.blk b = some kb
  off : ∀ c, c ≠ b → H'.blk c = H.blk c

theorem Wi.put {b o : Nat} {kb : Blk} {v : Value} (hb : H.blk b = some kb) (hc : isCell v = true) (hro : kb.ro = false) (hlt : o < kb.cells.length)
    (h : ∀ H', H.Wr b { kb with cells := kb.cells.set o v } H' → k undef H') : W.put (pt b o) v H k := by
  simp only [W.put, Heap.set, hb, hc, hro, Bool.not_false, Bool.and_true, hlt, decide_true, if_true]
  exact h _ ⟨rfl, by simp [Heap.setBlk, hro], fun c hc => by simp [Heap.setBlk, hc]⟩

theorem Wi.putN {n b o : Nat} {kb : Blk} {vs : Array Value} (hb : H.blk b = some kb) (hs : vs.size = n) (hc : vs.toList.all isCell = true) (hro : kb.ro = false) (hlt : o + n ≤ kb.cells.length)
    (h : ∀ H', H.Wr b { kb with cells := kb.cells.take o ++ vs.toList ++ kb.cells.drop (o + n) } H' → k undef H') : W.putN n (pt b o) (.agg vs) H k := by
  have hl : vs.toList.length = n := by simpa using hs
  simp only [W.putN, Heap.setN, hb, hc, hro, hs, hl, hlt, Bool.not_false, Bool.and_true, decide_true, if_true]
  exact h _ ⟨rfl, by simp [Heap.setBlk, hro], fun c hc => by simp [Heap.setBlk, hc]⟩

theorem Wi.len {a : Option Addr} {n e : Nat} (h : k (.int .i64 n) H) : W.len (.slice a n e) H k := h
theorem Wi.index {b o n e sz i : Nat} {κ : IntKind} (hi : i < n) (h : k (pt b (o + i * sz)) H) : W.indexAddr sz (.slice (some (adr b o)) n e) (.int κ (i : Int)) H k :=
  ⟨by omega, by omega, by rw [Int.toNat_natCast, adr_add]; exact h⟩
theorem Wi.not {b : Bool} (h : k (.bool !b) H) : W.un .not (.bool b) H k := h
theorem Wi.lss {κ : IntKind} {a b : Int} (h : k (.bool (decide (a < b))) H) : W.bin .lss (.int κ a) (.int κ b) H k := by simpa [W.bin, binEval, intEval] using h
theorem Wi.geq {κ : IntKind} {a b : Int} (h : k (.bool (decide (b ≤ a))) H) : W.bin .geq (.int κ a) (.int κ b) H k := by simpa [W.bin, binEval, intEval] using h
theorem Wi.leq {κ : IntKind} {a b : Int} (h : k (.bool (decide (a ≤ b))) H) : W.bin .leq (.int κ a) (.int κ b) H k := by simpa [W.bin, binEval, intEval] using h
theorem Wi.gtr {κ : IntKind} {a b : Int} (h : k (.bool (decide (b < a))) H) : W.bin .gtr (.int κ a) (.int κ b) H k := by simpa [W.bin, binEval, intEval] using h
theorem Wi.eql {κ : IntKind} {a b : Int} (h : k (.bool (a == b)) H) : W.bin .eql (.int κ a) (.int κ b) H k := by simpa [W.bin, binEval, intEval] using h
theorem Wi.neq {κ : IntKind} {a b : Int} (h : k (.bool (a != b)) H) : W.bin .neq (.int κ a) (.int κ b) H k := by simpa [W.bin, binEval, intEval] using h

/-- A 64-bit number. -/
def I64 (n : Int) : Prop := -9223372036854775808 ≤ n ∧ n < 9223372036854775808

theorem wrap_id {n : Int} (h : I64 n) : IntKind.i64.wrap n = n := by
  unfold I64 at h
  simp only [IntKind.wrap, IntKind.signed, IntKind.bits]
  simp
  split <;> omega

theorem Wi.add {a b : Int} (hw : I64 (a + b)) (h : k (.int .i64 (a + b)) H) : W.bin .add (.int .i64 a) (.int .i64 b) H k := by
  simpa [W.bin, binEval, intEval, wrap_id hw] using h
theorem Wi.sub {a b : Int} (hw : I64 (a - b)) (h : k (.int .i64 (a - b)) H) : W.bin .sub (.int .i64 a) (.int .i64 b) H k := by
  simpa [W.bin, binEval, intEval, wrap_id hw] using h
theorem Wi.mul {a b : Int} (hw : I64 (a * b)) (h : k (.int .i64 (a * b)) H) : W.bin .mul (.int .i64 a) (.int .i64 b) H k := by
  simpa [W.bin, binEval, intEval, wrap_id hw] using h
theorem Wi.neg {a : Int} (hw : I64 (-a)) (h : k (.int .i64 (-a)) H) : W.un .neg (.int .i64 a) H k := by
  simpa [W.un, unEval, wrap_id hw] using h

theorem Wi.tru {A B : Heap → Prop} (h : A H) : W.cond (.bool true) H A B := h
theorem Wi.fls {A B : Heap → Prop} (h : B H) : W.cond (.bool false) H A B := h
theorem Wi.cond {b : Bool} {A B : Heap → Prop} (h1 : b = true → A H) (h2 : b = false → B H) : W.cond (.bool b) H A B := by
  cases b
  · exact h2 rfl
  · exact h1 rfl
theorem Wi.eqBool {a b : Bool} (h : k (.bool (a == b)) H) : W.eqBool .eql (.bool a) (.bool b) H k := h
theorem Wi.neqBool {a b : Bool} (h : k (.bool !(a == b)) H) : W.eqBool .neq (.bool a) (.bool b) H k := h
end

theorem Heap.Wr.le {H H1 H2 : Heap} {b : Nat} {kb : Blk} (h : H1.Wr b kb H2) (l : H.Le H1) (hb : H.next ≤ b) : H.Le H2 :=
  ⟨by rw [h.next]; exact l.next, fun c hc => by rw [h.off c (by omega)]; exact l.blk c hc⟩

theorem Heap.Le.at {H H' : Heap} (l : H.Le H') {b : Nat} {kb : Blk} (h : H.blk b = some kb) (hb : b < H.next) : H'.blk b = some kb := by rw [l.blk b hb]; exact h

/-! ### Readings -/

/-- How a run of cells reads: its blocks, its cells, what they stand for. -/
structure Rd (α : Type) where
  n : Nat
  rel : Heap → List Nat → List Value → α → Prop
  len : ∀ {H bs cs x}, rel H bs cs x → cs.length = n
  cell : ∀ {H bs cs x}, rel H bs cs x → cs.all isCell = true
  low : ∀ {H bs cs x}, rel H bs cs x → ∀ b ∈ bs, b < H.next
  frame : ∀ {H H' bs cs x}, rel H bs cs x → H.next ≤ H'.next → (∀ b ∈ bs, H'.blk b = H.blk b) → rel H' bs cs x

theorem Rd.le {α : Type} (r : Rd α) {H H' : Heap} {bs : List Nat} {cs : List Value} {x : α} (h : r.rel H bs cs x) (l : H.Le H') : r.rel H' bs cs x :=
  r.frame h l.next fun b hb => l.blk b (r.low h b hb)

def Rd.int : Rd Int where
  n := 1
  rel := fun _ bs cs x => bs = [] ∧ cs = [.int .i64 x] ∧ I64 x
  len := fun h => by rw [h.2.1]; rfl
  cell := fun h => by rw [h.2.1]; rfl
  low := fun h b hb => by rw [h.1] at hb; cases hb
  frame := fun h _ _ => h

def Rd.bool : Rd Bool where
  n := 1
  rel := fun _ bs cs x => bs = [] ∧ cs = [.bool x]
  len := fun h => by rw [h.2]; rfl
  cell := fun h => by rw [h.2]; rfl
  low := fun h b hb => by rw [h.1] at hb; cases hb
  frame := fun h _ _ => h

def Rd.pair {α β : Type} (r : Rd α) (s : Rd β) : Rd (α × β) where
  n := r.n + s.n
  rel := fun H bs cs x => ∃ b1 b2 c1 c2, bs = b1 ++ b2 ∧ cs = c1 ++ c2 ∧ r.rel H b1 c1 x.1 ∧ s.rel H b2 c2 x.2
  len := fun ⟨_, _, _, _, _, h, h1, h2⟩ => by rw [h, List.length_append, r.len h1, s.len h2]
  cell := fun ⟨_, _, _, _, _, h, h1, h2⟩ => by rw [h, List.all_append, r.cell h1, s.cell h2]; rfl
  low := fun ⟨_, _, _, _, h, _, h1, h2⟩ b hb => by
    rw [h, List.mem_append] at hb
    exact hb.elim (r.low h1 b) (s.low h2 b)
  frame := fun ⟨b1, b2, c1, c2, h, h', h1, h2⟩ hn hb =>
    ⟨b1, b2, c1, c2, h, h', r.frame h1 hn fun b hm => hb b (by rw [h]; exact List.mem_append_left _ hm), s.frame h2 hn fun b hm => hb b (by rw [h]; exact List.mem_append_right _ hm)⟩

/-- The cells of the i-th element. -/
def cellsAt (n : Nat) (cells : List Value) (o i : Nat) : List Value := (cells.drop (o + i * n)).take n

/-- A slice that lies in a block. -/
structure SlAt {α : Type} (r : Rd α) (H : Heap) (b o e : Nat) (kb : Blk) (fs : Nat → List Nat) (xs : List α) : Prop where
  lt : b < H.next
  blk : H.blk b = some kb
  cap : 2 * xs.length ≤ e
  small : xs.length < 9223372036854775808
  room : o + xs.length * r.n ≤ kb.cells.length
  each : ∀ i (h : i < xs.length), r.rel H (fs i) (cellsAt r.n kb.cells o i) xs[i]

def Rd.slice {α : Type} (r : Rd α) : Rd (List α) where
  n := 1
  rel := fun H bs cs xs => (xs = [] ∧ bs = [] ∧ (cs = [.slice none 0 0] ∨ cs = [.slice none 0 1] ∨ ∃ a, cs = [.slice (some a) 0 0])) ∨
    ∃ b o e kb fs, bs = b :: (List.range xs.length).flatMap fs ∧ cs = [.slice (some (adr b o)) xs.length e] ∧ SlAt r H b o e kb fs xs
  len := fun h => by rcases h with ⟨_, _, h | h | ⟨a, h⟩⟩ | ⟨b, o, e, kb, fs, _, h, _⟩ <;> rw [h] <;> rfl
  cell := fun h => by rcases h with ⟨_, _, h | h | ⟨a, h⟩⟩ | ⟨b, o, e, kb, fs, _, h, _⟩ <;> rw [h] <;> rfl
  low := fun h c hc => by
    rcases h with ⟨_, h, _⟩ | ⟨b, o, e, kb, fs, h, _, s⟩
    · rw [h] at hc; cases hc
    · rw [h, List.mem_cons, List.mem_flatMap] at hc
      rcases hc with rfl | ⟨i, hi, hc⟩
      · exact s.lt
      · exact r.low (s.each i (by simpa using hi)) c hc
  frame := fun h hn hb => by
    rcases h with h | ⟨b, o, e, kb, fs, h, h', s⟩
    · exact .inl h
    · refine .inr ⟨b, o, e, kb, fs, h, h', Nat.lt_of_lt_of_le s.lt hn, ?_, s.cap, s.small, s.room, fun i hi => r.frame (s.each i hi) hn fun c hc => hb c ?_⟩
      · rw [hb b (by rw [h]; simp)]; exact s.blk
      · rw [h, List.mem_cons, List.mem_flatMap]
        exact .inr ⟨i, by simpa using hi, hc⟩

theorem Wi.chk {g : Heap → Post → Prop} {v : Value} {H : Heap} {rest : Prop} (h1 : g H (fun v' H' => v' = v ∧ H' = H)) (h2 : rest) : W.chk g v H rest := ⟨h1, h2⟩

theorem wf_of_i64 {n : Int} (h : I64 n) : (Lit.int .i64 n).wf = true := by
  unfold I64 at h
  simp [Lit.wf, IntKind.min, IntKind.max, IntKind.signed, IntKind.bits]
  omega

end Go.Ab
/-! The laws' own helpers, once for all types: comparing, marking, telling marks. -/
namespace Go.Ab

theorem Rd.slice_val {α : Type} {r : Rd α} {H : Heap} {bs : List Nat} {cs : List Value} {xs : List α} (h : (Rd.slice r).rel H bs cs xs) : ∃ a e, cs = [.slice a xs.length e] := by
  rcases h with ⟨rfl, _, h | h | ⟨a, h⟩⟩ | ⟨b, o, e, kb, fs, _, h, _⟩
  · exact ⟨_, _, h⟩
  · exact ⟨_, _, h⟩
  · exact ⟨_, _, h⟩
  · exact ⟨_, _, h⟩

theorem Rd.slice_small {α : Type} {r : Rd α} {H : Heap} {bs : List Nat} {cs : List Value} {xs : List α} (h : (Rd.slice r).rel H bs cs xs) : xs.length < 9223372036854775808 := by
  rcases h with ⟨rfl, _, h | h | ⟨a, h⟩⟩ | ⟨b, o, e, kb, fs, _, h, s⟩
  · simp
  · simp
  · simp
  · exact s.small

/-- The i-th element. -/
theorem Rd.slice_at {α : Type} {r : Rd α} {H : Heap} {bs : List Nat} {v : Value} {xs : List α} (h : (Rd.slice r).rel H bs [v] xs) {i : Nat} (hi : i < xs.length) :
    ∃ b o e kb fs, v = .slice (some (adr b o)) xs.length e ∧ bs = b :: (List.range xs.length).flatMap fs ∧ SlAt r H b o e kb fs xs := by
  rcases h with ⟨rfl, _, _⟩ | ⟨b, o, e, kb, fs, h1, h2, s⟩
  · simp at hi
  · exact ⟨b, o, e, kb, fs, by simpa using h2, h1, s⟩

theorem cellsAt_one {cells : List Value} {o i : Nat} (h : o + i * 1 < cells.length) : cellsAt 1 cells o i = [cells[o + i * 1]] := by
  unfold cellsAt
  rw [List.drop_eq_getElem_cons h]
  rfl

theorem SlAt.in {α : Type} {r : Rd α} {H : Heap} {b o e : Nat} {kb : Blk} {fs : Nat → List Nat} {xs : List α} (s : SlAt r H b o e kb fs xs) {i : Nat} (hi : i < xs.length) : o + i * r.n + r.n ≤ kb.cells.length := by
  have h1 := s.room
  have h2 : (i + 1) * r.n ≤ xs.length * r.n := Nat.mul_le_mul_right _ hi
  rw [Nat.succ_mul] at h2
  omega

theorem SlAt.one {α : Type} {r : Rd α} (hr : r.n = 1) {H : Heap} {b o e : Nat} {kb : Blk} {fs : Nat → List Nat} {xs : List α} (s : SlAt r H b o e kb fs xs) {i : Nat} (hi : i < xs.length) :
    ∃ u, kb.cells[o + i * 1]? = some u ∧ r.rel H (fs i) [u] xs[i] := by
  have h1 := s.in hi
  have h2 := s.each i hi
  rw [hr] at h1 h2
  have h3 : o + i * 1 < kb.cells.length := by omega
  rw [cellsAt_one h3] at h2
  exact ⟨_, List.getElem?_eq_getElem h3, h2⟩

/-! ### Comparing -/

/-- How two values are compared: what follows if they differ, and if not. -/
abbrev Cmp := Value → Value → Heap → (Heap → Prop) → (Heap → Prop) → Prop

def CmpOK {α : Type} (r : Rd α) (C : Cmp) : Prop :=
  ∀ H b1 b2 u1 u2 x y A B, r.rel H b1 [u1] x → r.rel H b2 [u2] y → (x ≠ y → ∀ H', H.Le H' → A H') → (x = y → ∀ H', H.Le H' → B H') → C u1 u2 H A B

def eqSliceW (n : Nat) (C : Cmp) (Q : Post) (a b : Value) (H : Heap) : Prop :=
  W.len a H fun v1 H => W.len b H fun v2 H => W.bin .neq v1 v2 H fun v3 H => W.cond v3 H (fun H => Q (.bool false) H)
    (fun H => W.loop (S := St [n]) (fun I s H =>
      W.len a H fun v4 H => W.bin .lss s.1 v4 H fun v5 H => W.cond v5 H
        (fun H => W.indexAddr 1 a s.1 H fun v6 H => W.get v6 H fun v7 H => W.indexAddr 1 b s.1 H fun v8 H => W.get v8 H fun v9 H =>
          C v7 v9 H (fun H => Q (.bool false) H) (fun H => W.bin .add s.1 (.int .i64 1) H fun v12 H => I (v12, ()) H))
        (fun H => Q (.bool true) H)) ((.int .i64 0), ()) H)

theorem eqSlice_ok {α : Type} {r : Rd α} (hr : r.n = 1) {C : Cmp} (hC : CmpOK r C) {n : Nat} {Q : Post} {H : Heap} {b1 b2 : List Nat} {a b : Value} {xs ys : List α}
    (h1 : (Rd.slice r).rel H b1 [a] xs) (h2 : (Rd.slice r).rel H b2 [b] ys)
    (ht : xs = ys → ∀ H', H.Le H' → Q (.bool true) H') (hf : xs ≠ ys → ∀ H', H.Le H' → Q (.bool false) H') : eqSliceW n C Q a b H := by
  have hx := Rd.slice_small h1
  obtain ⟨p1, e1, g1⟩ := Rd.slice_val h1
  obtain ⟨p2, e2, g2⟩ := Rd.slice_val h2
  simp only [List.cons.injEq, and_true] at g1 g2
  unfold eqSliceW
  rw [g1, g2]
  refine Wi.len (Wi.len (Wi.neq (Wi.cond (fun hne => ?_) fun heq => ?_)))
  · exact hf (fun e => by subst e; simp at hne) H (.refl _)
  have hl : xs.length = ys.length := by
    simp only [bne_eq_false_iff_eq] at heq
    omega
  rw [← g1, ← g2]
  refine W.loop_rule (fun s H' => ∃ i : Nat, s = ((.int .i64 i), ()) ∧ i ≤ xs.length ∧ H.Le H' ∧ ∀ (j : Nat) (hj : j < i) (g1 : j < xs.length) (g2 : j < ys.length), xs[j] = ys[j])
    (fun s _ => match s.1 with | .int _ i => xs.length - i.toNat | _ => 0) ⟨0, rfl, Nat.zero_le _, .refl _, fun j hj => by omega⟩ ?_
  rintro s H1 ⟨i, rfl, hi, hle, heq'⟩
  rw [g1]
  refine Wi.len (Wi.lss (Wi.cond (fun hlt => ?_) fun hge => ?_))
  · have hix : i < xs.length := by simp only [decide_eq_true_eq] at hlt; omega
    have hiy : i < ys.length := by omega
    rw [← g1]
    obtain ⟨c1, o1, E1, k1, f1, q1, _, s1⟩ := Rd.slice_at (Rd.le _ h1 hle) hix
    obtain ⟨c2, o2, E2, k2, f2, q2, _, s2⟩ := Rd.slice_at (Rd.le _ h2 hle) hiy
    obtain ⟨u1, m1, r1⟩ := s1.one hr hix
    obtain ⟨u2, m2, r2⟩ := s2.one hr hiy
    rw [q1, q2]
    refine Wi.index hix (Wi.get s1.blk m1 (Wi.index hiy (Wi.get s2.blk m2 ?_)))
    refine hC _ _ _ _ _ _ _ _ _ r1 r2 (fun hne H2 l2 => ?_) fun he H2 l2 => ?_
    · exact hf (fun e => hne (by subst e; rfl)) H2 (hle.trans l2)
    · refine Wi.add (by unfold I64; omega) ⟨⟨i + 1, rfl, by omega, hle.trans l2, fun j hj g1 g2 => ?_⟩, ?_⟩
      · by_cases h : j < i
        · exact heq' j h g1 g2
        · have : j = i := by omega
          subst this
          exact he
      · simp only
        omega
  · have : i = xs.length := by simp only [decide_eq_false_iff_not] at hge; omega
    exact ht (List.ext_getElem hl fun j g1 g2 => heq' j (by omega) g1 g2) H1 hle

/-- A comparison that is a call. -/
def EqC {α : Type} (P : Program) (f : FuncId) (r : Rd α) : Prop :=
  ∀ H b1 b2 u1 u2 x y (Q : Post), r.rel H b1 [u1] x → r.rel H b2 [u2] y → (x = y → ∀ H', H.Le H' → Q (.bool true) H') → (x ≠ y → ∀ H', H.Le H' → Q (.bool false) H') → Runs P f #[u1, u2] H Q

end Go.Ab

/-! The laws' own helpers: marking and telling marks. -/
namespace Go.Ab

/-! ### What marks come to -/
section
variable {α : Type} (mk : α → Int → α) (sz : α → Nat)

def mkl : List α → Int → List α
  | [], _ => []
  | x :: xs, k => mk x k :: mkl xs (k + sz x)

def szl : List α → Nat
  | [] => 0
  | x :: xs => sz x + szl xs

variable {mk sz}
end

/-- None of these blocks is one that is never written. -/
def RW (H : Heap) (bs : List Nat) : Prop := ∀ c ∈ bs, ∀ kc, H.blk c = some kc → kc.ro = false

/-- Marks have been put. -/
structure Marked {α : Type} (r : Rd α) (H : Heap) (bs : List Nat) (cs : List Value) (y : α) (H' : Heap) : Prop where
  next : H.next ≤ H'.next
  rel : r.rel H' bs cs y
  off : ∀ c, c < H.next → c ∉ bs → H'.blk c = H.blk c
  rw : RW H' bs

/-- Marking by a call. -/
def MarkC {α : Type} (P : Program) (f : FuncId) (r : Rd α) (mk : α → Int → α) (sz : α → Nat) : Prop :=
  ∀ H bs v x (k : Int) (Q : Post), r.rel H bs [v] x → bs.Nodup → RW H bs → 0 ≤ k → k + sz x < 4611686018427387904 →
    (∀ H', Marked r H bs [v] (mk x k) H' → Q (.int .i64 (k + sz x)) H') → Runs P f #[v, .int .i64 k] H Q

abbrev Mrk := Value → Value → Heap → Post → Prop

/-- Marking an element where it lies. -/
def MarkE {α : Type} (r : Rd α) (mk : α → Int → α) (sz : α → Nat) (M : Mrk) : Prop :=
  ∀ H b o kb bs x (k : Int) (K : Post), H.blk b = some kb → b < H.next → kb.ro = false → o + r.n ≤ kb.cells.length → r.rel H bs ((kb.cells.drop o).take r.n) x → b ∉ bs → bs.Nodup → RW H bs →
    0 ≤ k → k + sz x < 4611686018427387904 →
    (∀ H' cs', H.next ≤ H'.next → H'.blk b = some { kb with cells := kb.cells.take o ++ cs' ++ kb.cells.drop (o + r.n) } → r.rel H' bs cs' (mk x k) →
      (∀ c, c < H.next → c ≠ b → c ∉ bs → H'.blk c = H.blk c) → RW H' bs → K (.int .i64 (k + sz x)) H') → M (pt b o) (.int .i64 k) H K

theorem cells_put {n : Nat} {cells cs : List Value} {o i j : Nat} (hc : cs.length = n) (hl : o + i * n + n ≤ cells.length) :
    cellsAt n (cells.take (o + i * n) ++ cs ++ cells.drop (o + i * n + n)) o j = if j = i then cs else cellsAt n cells o j := by
  have hlt : (cells.take (o + i * n)).length = o + i * n := by simp; omega
  split
  · rename_i h
    subst h
    unfold cellsAt
    rw [List.append_assoc, List.drop_append_of_le_length (by omega), List.drop_of_length_le (by omega), List.nil_append, List.take_append_of_le_length (by omega), List.take_of_length_le (by omega)]
  · rename_i h
    unfold cellsAt
    apply List.ext_getElem?
    intro m
    rw [List.getElem?_take, List.getElem?_take]
    split
    · rename_i hm
      rw [List.getElem?_drop, List.getElem?_drop, List.append_assoc]
      rcases Nat.lt_or_gt_of_ne h with hji | hji
      · have : (j + 1) * n ≤ i * n := Nat.mul_le_mul_right _ hji
        rw [Nat.succ_mul] at this
        rw [List.getElem?_append_left (by omega), List.getElem?_take, if_pos (by omega)]
      · have : (i + 1) * n ≤ j * n := Nat.mul_le_mul_right _ hji
        rw [Nat.succ_mul] at this
        rw [List.getElem?_append_right (by omega), List.getElem?_append_right (by omega), List.getElem?_drop, hlt, hc]
        congr 1
        omega
    · rfl

theorem flat_nodup {fs : Nat → List Nat} {n : Nat} (h : ((List.range n).flatMap fs).Nodup) {i j : Nat} (hi : i < n) (hj : j < n) : (fs i).Nodup ∧ (i ≠ j → ∀ c ∈ fs i, c ∉ fs j) := by
  have h' := List.pairwise_flatMap.1 h
  refine ⟨h'.1 i (by simpa using hi), fun hne c hc hcj => ?_⟩
  have hp := List.pairwise_iff_getElem.1 h'.2
  rcases Nat.lt_or_gt_of_ne hne with h1 | h1
  · have := hp i j (by simpa using hi) (by simpa using hj) h1
    simp only [List.getElem_range] at this
    exact this c hc c hcj rfl
  · have := hp j i (by simpa using hj) (by simpa using hi) h1
    simp only [List.getElem_range] at this
    exact this c hcj c hc rfl

def markSliceW (n1 n2 sz : Nat) (M : Mrk) (Q : Post) (a k : Value) (H : Heap) : Prop :=
  W.loop (S := St [n1, n2]) (fun I s H => W.len a H fun v1 H => W.bin .lss s.2.1 v1 H fun v2 H => W.cond v2 H
    (fun H => W.indexAddr sz a s.2.1 H fun v3 H => M v3 s.1 H (fun k' H => W.bin .add s.2.1 (.int .i64 1) H fun v5 H => I (k', v5, ()) H))
    (fun H => Q s.1 H)) (k, .int .i64 0, ()) H

end Go.Ab

/-! The laws' own helpers: marks by calls, telling marks. -/
namespace Go.Ab

/-! ### Telling marks -/

def HeldC {α : Type} (P : Program) (f : FuncId) (r : Rd α) (mk : α → Int → α) (sz : α → Nat) : Prop :=
  ∀ H bs v x (k : Int) (Q : Post), r.rel H bs [v] (mk x k) → 0 ≤ k → k + sz x < 4611686018427387904 → (∀ H', H.Le H' → Q (.int .i64 (k + sz x)) H') → Runs P f #[v, .int .i64 k] H Q

abbrev Hld := Value → Value → Heap → (Heap → Prop) → Post → Prop

def HeldE {α : Type} (r : Rd α) (mk : α → Int → α) (sz : α → Nat) (M : Hld) : Prop :=
  ∀ H b o kb bs x (k : Int) A (K : Post), H.blk b = some kb → b < H.next → o + r.n ≤ kb.cells.length → r.rel H bs ((kb.cells.drop o).take r.n) (mk x k) → 0 ≤ k → k + sz x < 4611686018427387904 →
    (∀ H', H.Le H' → K (.int .i64 (k + sz x)) H') → M (pt b o) (.int .i64 k) H A K

def heldSliceW (n1 n2 sz : Nat) (M : Hld) (Q : Post) (a k : Value) (H : Heap) : Prop :=
  W.loop (S := St [n1, n2]) (fun I s H => W.len a H fun v1 H => W.bin .lss s.2.1 v1 H fun v2 H => W.cond v2 H
    (fun H => W.indexAddr sz a s.2.1 H fun v3 H => M v3 s.1 H (fun H => Q (.int .i64 (-1)) H) (fun k' H => W.bin .add s.2.1 (.int .i64 1) H fun v5 H => I (k', v5, ()) H))
    (fun H => Q s.1 H)) (k, .int .i64 0, ()) H

/-! ### Structs: given as their cells together -/

def EqA {α : Type} (P : Program) (f : FuncId) (r : Rd α) : Prop :=
  ∀ H b1 b2 c1 c2 x y (Q : Post), r.rel H b1 c1 x → r.rel H b2 c2 y → (x = y → ∀ H', H.Le H' → Q (.bool true) H') → (x ≠ y → ∀ H', H.Le H' → Q (.bool false) H') → Runs P f #[.agg c1.toArray, .agg c2.toArray] H Q

def MarkA {α : Type} (P : Program) (f : FuncId) (r : Rd α) (mk : α → Int → α) (sz : α → Nat) : Prop :=
  ∀ H bs cs x (k : Int) (Q : Post), r.rel H bs cs x → bs.Nodup → RW H bs → 0 ≤ k → k + sz x < 4611686018427387904 →
    (∀ H', Marked r H bs cs (mk x k) H' → Q (.int .i64 (k + sz x)) H') → Runs P f #[.agg cs.toArray, .int .i64 k] H Q

def HeldA {α : Type} (P : Program) (f : FuncId) (r : Rd α) (mk : α → Int → α) (sz : α → Nat) : Prop :=
  ∀ H bs cs x (k : Int) (Q : Post), r.rel H bs cs (mk x k) → 0 ≤ k → k + sz x < 4611686018427387904 → (∀ H', H.Le H' → Q (.int .i64 (k + sz x)) H') → Runs P f #[.agg cs.toArray, .int .i64 k] H Q

section
variable {α β : Type} (mk : α → Int → α) (sz : α → Nat) (mk' : β → Int → β) (sz' : β → Nat)
def mkp (x : α × β) (k : Int) : α × β := (mk x.1 k, mk' x.2 (k + sz x.1))
def szp (x : α × β) : Nat := sz x.1 + sz' x.2
end

/-- What is not marked. -/
def mk0 {α : Type} (x : α) (_ : Int) : α := x
def sz0 {α : Type} (_ : α) : Nat := 0

theorem RW.le {H H' : Heap} {bs : List Nat} (h : RW H bs) (l : H.Le H') (low : ∀ b ∈ bs, b < H.next) : RW H' bs := fun c hc kc hk => by
  rw [l.blk c (low c hc)] at hk
  exact h c hc kc hk

theorem RW.left {H : Heap} {a b : List Nat} (h : RW H (a ++ b)) : RW H a := fun c hc => h c (List.mem_append_left _ hc)
theorem RW.right {H : Heap} {a b : List Nat} (h : RW H (a ++ b)) : RW H b := fun c hc => h c (List.mem_append_right _ hc)

end Go.Ab

/-! The laws' own helpers on structs: comparing, marking, telling marks. -/
namespace Go.Ab

/-- The value of some cells: one alone, or all together. -/
def valOf (agg : Bool) (cs : List Value) : Value := match agg with | true => .agg cs.toArray | false => cs.headD undef

def getW (agg : Bool) (n : Nat) (p : Value) (H : Heap) (k : Post) : Prop := match agg with | true => W.getN n p H k | false => W.get p H k

/-- A field of a struct, compared. -/
structure Fld where
  off : Nat
  n : Nat
  agg : Bool
  C : Cmp

def CmpV {α : Type} (agg : Bool) (r : Rd α) (C : Cmp) : Prop :=
  ∀ H b1 b2 c1 c2 x y A B, r.rel H b1 c1 x → r.rel H b2 c2 y → (x ≠ y → ∀ H', H.Le H' → A H') → (x = y → ∀ H', H.Le H' → B H') → C (valOf agg c1) (valOf agg c2) H A B

inductive FlOK : Nat → {α : Type} → Rd α → List Fld → Prop
  | one {α : Type} {o : Nat} {r : Rd α} {agg : Bool} {C : Cmp} {n : Nat} (hn : r.n = n) (ha : agg = false → n = 1) (h : CmpV agg r C) : FlOK o r [⟨o, n, agg, C⟩]
  | pair {α β : Type} {o o' : Nat} {r : Rd α} {s : Rd β} {fs gs : List Fld} (h1 : FlOK o r fs) (ho : o + r.n = o') (h2 : FlOK o' s gs) : FlOK o (r.pair s) (fs ++ gs)

def eqFields (Q : Heap → Prop) (T : Heap → Prop) (p q : Value) : List Fld → Heap → Prop
  | [], H => T H
  | f :: fs, H => W.fieldAddr f.off p H fun v3 H => getW f.agg f.n v3 H fun v4 H => W.fieldAddr f.off q H fun v5 H => getW f.agg f.n v5 H fun v6 H => f.C v4 v6 H Q (fun H => eqFields Q T p q fs H)

theorem Wi.fieldAddr0 {b off : Nat} {H : Heap} {k : Post} (h : k (pt b off) H) : W.fieldAddr off (pt b 0) H k := Wi.fieldAddr (by rw [Nat.zero_add]; exact h)

def eqStructW (ty : TypeId) (fs : List Fld) (Q : Post) (a b : Value) (H : Heap) : Prop :=
  W.box a ty H fun p H => W.box b ty H fun q H => eqFields (fun H => Q (.bool false) H) (fun H => Q (.bool true) H) p q fs H

/-! ### Marking -/

structure MFld where
  off : Nat
  n : Nat
  agg : Bool
  M : Mrk

def MarkV {α : Type} (agg : Bool) (r : Rd α) (mk : α → Int → α) (sz : α → Nat) (M : Mrk) : Prop :=
  ∀ H bs cs x (k : Int) (K : Post), r.rel H bs cs x → bs.Nodup → RW H bs → 0 ≤ k → k + sz x < 4611686018427387904 →
    (∀ H', Marked r H bs cs (mk x k) H' → K (.int .i64 (k + sz x)) H') → M (valOf agg cs) (.int .i64 k) H K

inductive MfOK : Nat → {α : Type} → Rd α → (α → Int → α) → (α → Nat) → List MFld → Prop
  | none {α : Type} {o : Nat} {r : Rd α} : MfOK o r mk0 sz0 []
  | one {α : Type} {o : Nat} {r : Rd α} {mk : α → Int → α} {sz : α → Nat} {agg : Bool} {M : Mrk} {n : Nat} (hn : r.n = n) (ha : agg = false → n = 1) (h : MarkV agg r mk sz M) : MfOK o r mk sz [⟨o, n, agg, M⟩]
  | pair {α β : Type} {o o' : Nat} {r : Rd α} {s : Rd β} {mk : α → Int → α} {sz : α → Nat} {mk' : β → Int → β} {sz' : β → Nat} {fs gs : List MFld}
      (h1 : MfOK o r mk sz fs) (ho : o + r.n = o') (h2 : MfOK o' s mk' sz' gs) : MfOK o (r.pair s) (mkp mk sz mk') (szp sz sz') (fs ++ gs)

def markFields (T : Post) (p : Value) : List MFld → Value → Heap → Prop
  | [], k, H => T k H
  | f :: fs, k, H => W.fieldAddr f.off p H fun v H => getW f.agg f.n v H fun u H => f.M u k H (fun k' H => markFields T p fs k' H)

def markStructW (ty : TypeId) (fs : List MFld) (Q : Post) (a k : Value) (H : Heap) : Prop := W.box a ty H fun p H => markFields Q p fs k H

/-! ### Telling marks -/

structure HFld where
  off : Nat
  n : Nat
  agg : Bool
  M : Hld

def HeldV {α : Type} (agg : Bool) (r : Rd α) (mk : α → Int → α) (sz : α → Nat) (M : Hld) : Prop :=
  ∀ H bs cs x (k : Int) A (K : Post), r.rel H bs cs (mk x k) → 0 ≤ k → k + sz x < 4611686018427387904 → (∀ H', H.Le H' → K (.int .i64 (k + sz x)) H') → M (valOf agg cs) (.int .i64 k) H A K

inductive HfOK : Nat → {α : Type} → Rd α → (α → Int → α) → (α → Nat) → List HFld → Prop
  | none {α : Type} {o : Nat} {r : Rd α} : HfOK o r mk0 sz0 []
  | one {α : Type} {o : Nat} {r : Rd α} {mk : α → Int → α} {sz : α → Nat} {agg : Bool} {M : Hld} {n : Nat} (hn : r.n = n) (ha : agg = false → n = 1) (h : HeldV agg r mk sz M) : HfOK o r mk sz [⟨o, n, agg, M⟩]
  | pair {α β : Type} {o o' : Nat} {r : Rd α} {s : Rd β} {mk : α → Int → α} {sz : α → Nat} {mk' : β → Int → β} {sz' : β → Nat} {fs gs : List HFld}
      (h1 : HfOK o r mk sz fs) (ho : o + r.n = o') (h2 : HfOK o' s mk' sz' gs) : HfOK o (r.pair s) (mkp mk sz mk') (szp sz sz') (fs ++ gs)

def heldFields (A : Heap → Prop) (T : Post) (p : Value) : List HFld → Value → Heap → Prop
  | [], k, H => T k H
  | f :: fs, k, H => W.fieldAddr f.off p H fun v H => getW f.agg f.n v H fun u H => f.M u k H A (fun k' H => heldFields A T p fs k' H)

def heldStructW (ty : TypeId) (fs : List HFld) (Q : Post) (a k : Value) (H : Heap) : Prop := W.box a ty H fun p H => heldFields (fun H => Q (.int .i64 (-1)) H) Q p fs k H

end Go.Ab

/-! Values that a call has made. -/
namespace Go.Ab

/-- What a call has made: blocks that were not there, each once, none of them read-only; and all that was is as it was. -/
structure Fresh {α : Type} (r : Rd α) (H : Heap) (cs : List Value) (x : α) (H' : Heap) : Prop where
  le : H.Le H'
  has : ∃ bs, r.rel H' bs cs x ∧ bs.Nodup ∧ (∀ c ∈ bs, H.next ≤ c) ∧ RW H' bs

/-- Two things that were made one after the other. -/
theorem Fresh.pair {α β : Type} {r : Rd α} {s : Rd β} {H H1 H2 : Heap} {c1 c2 : List Value} {x : α} {y : β} (f : Fresh r H c1 x H1) (g : Fresh s H1 c2 y H2) : Fresh (r.pair s) H (c1 ++ c2) (x, y) H2 := by
  obtain ⟨b1, p1, p2, p3, p4⟩ := f.has
  obtain ⟨b2, q1, q2, q3, q4⟩ := g.has
  refine ⟨f.le.trans g.le, b1 ++ b2, ⟨b1, b2, c1, c2, rfl, rfl, Rd.le _ p1 g.le, q1⟩, List.nodup_append.2 ⟨p2, q2, fun a ha b hb hab => ?_⟩, fun c hc => ?_, fun c hc => ?_⟩
  · have := r.low p1 a ha
    have := q3 b hb
    omega
  · rcases List.mem_append.1 hc with hc | hc
    · exact p3 c hc
    · exact Nat.le_trans f.le.next (q3 c hc)
  · rcases List.mem_append.1 hc with hc | hc
    · exact p4.le g.le (r.low p1) c hc
    · exact q4 c hc

/-- Elements made one after the other, all of their blocks from number m on. -/
structure FreshL {α : Type} (r : Rd α) (H : Heap) (m : Nat) (us : List Value) (xs : List α) (H' : Heap) : Prop where
  le : H.Le H'
  low : H.next ≤ m
  high : m ≤ H'.next
  len : us.length = xs.length
  has : ∃ fs : Nat → List Nat, (∀ i (h : i < xs.length) (h' : i < us.length), r.rel H' (fs i) [us[i]] xs[i] ∧ (fs i).Nodup ∧ (∀ c ∈ fs i, m ≤ c) ∧ RW H' (fs i)) ∧
    ∀ i j, i < j → j < xs.length → ∀ c ∈ fs i, c ∉ fs j

/-- A struct made by a function that takes nothing. -/
def MakesA {α : Type} (P : Program) (f : FuncId) (r : Rd α) (x : α) : Prop := ∀ H (Q : Post), (∀ H' cs, Fresh r H cs x H' → Q (.agg cs.toArray) H') → Runs P f #[] H Q

end Go.Ab

/-! The laws' own helpers: weighing and copying arguments. -/
namespace Go.Ab

/-! ### Weighing -/

def SzC {α : Type} (P : Program) (f : FuncId) (r : Rd α) (w : α → Nat) : Prop :=
  ∀ H bs v x (left : Int) (Q : Post), r.rel H bs [v] x → 0 ≤ left → left < 4611686018427387904 → (w x ≤ left → ∀ H', H.Le H' → Q (.int .i64 (left - w x)) H') →
    (left < w x → ∀ H', H.Le H' → Q (.int .i64 (-1)) H') → Runs P f #[v, .int .i64 left] H Q

def SzA {α : Type} (P : Program) (f : FuncId) (r : Rd α) (w : α → Nat) : Prop :=
  ∀ H bs cs x (left : Int) (Q : Post), r.rel H bs cs x → 0 ≤ left → left < 4611686018427387904 → (w x ≤ left → ∀ H', H.Le H' → Q (.int .i64 (left - w x)) H') →
    (left < w x → ∀ H', H.Le H' → Q (.int .i64 (-1)) H') → Runs P f #[.agg cs.toArray, .int .i64 left] H Q

/-- Weighing, what follows if it is too much, and if not. -/
def SzV {α : Type} (agg : Bool) (r : Rd α) (w : α → Nat) (M : Hld) : Prop :=
  ∀ H bs cs x (left : Int) A (K : Post), r.rel H bs cs x → 0 ≤ left → left < 4611686018427387904 → (w x ≤ left → ∀ H', H.Le H' → K (.int .i64 (left - w x)) H') →
    (left < w x → ∀ H', H.Le H' → A H') → M (valOf agg cs) (.int .i64 left) H A K

def szLenW (Q : Post) (a left : Value) (H : Heap) : Prop :=
  W.len a H fun v1 H => W.bin .sub left v1 H fun v2 H => W.bin .lss v2 (.int .i64 0) H fun v3 H => W.cond v3 H (fun H => Q (.int .i64 (-1)) H) (fun H => Q v2 H)

def szSliceW (n1 n2 : Nat) (M : Hld) (Q : Post) (a left : Value) (H : Heap) : Prop :=
  W.len a H fun v1 H => W.bin .sub left v1 H fun v2 H => W.bin .lss v2 (.int .i64 0) H fun v3 H => W.cond v3 H (fun H => Q (.int .i64 (-1)) H)
    (fun H => W.loop (S := St [n1, n2]) (fun I s H => W.len a H fun v4 H => W.bin .lss s.2.1 v4 H fun v5 H => W.cond v5 H
      (fun H => W.indexAddr 1 a s.2.1 H fun v6 H => W.get v6 H fun v7 H => M v7 s.1 H (fun H => Q (.int .i64 (-1)) H) (fun v8 H => W.bin .add s.2.1 (.int .i64 1) H fun v10 H => I (v8, v10, ()) H))
      (fun H => Q s.1 H)) (v2, .int .i64 0, ()) H)

def wl {α : Type} (w : α → Nat) (xs : List α) : Nat := xs.length + szl w xs

/-! ### Structs weighed -/

inductive SfOK : Nat → {α : Type} → Rd α → (α → Nat) → List HFld → Prop
  | none {α : Type} {o : Nat} {r : Rd α} : SfOK o r sz0 []
  | one {α : Type} {o : Nat} {r : Rd α} {w : α → Nat} {agg : Bool} {M : Hld} {n : Nat} (hn : r.n = n) (ha : agg = false → n = 1) (h : SzV agg r w M) : SfOK o r w [⟨o, n, agg, M⟩]
  | pair {α β : Type} {o o' : Nat} {r : Rd α} {s : Rd β} {w : α → Nat} {w' : β → Nat} {fs gs : List HFld}
      (h1 : SfOK o r w fs) (ho : o + r.n = o') (h2 : SfOK o' s w' gs) : SfOK o (r.pair s) (szp w w') (fs ++ gs)

end Go.Ab

/-! The laws' own helpers: copying arguments. -/
namespace Go.Ab

/-- The same to a block's cells but those of one block. -/
structure Heap.LeBut (H : Heap) (b : Nat) (H' : Heap) : Prop where
  next : H.next ≤ H'.next
  blk : ∀ c, c < H.next → c ≠ b → H'.blk c = H.blk c

abbrev Cpy := Value → Heap → Post → Prop

/-- Copying a value: as it reads, in new blocks. -/
def ToV {α : Type} (agg : Bool) (r : Rd α) (w : α → Nat) (E : Cpy) : Prop :=
  ∀ H bs cs x (K : Post), r.rel H bs cs x → w x ≤ 1048576 → (∀ H' cs', Fresh r H cs' x H' → K (valOf agg cs') H') → E (valOf agg cs) H K

def ToC {α : Type} (P : Program) (f : FuncId) (r : Rd α) (w : α → Nat) : Prop :=
  ∀ H bs v x (Q : Post), r.rel H bs [v] x → w x ≤ 1048576 → (∀ H' u, Fresh r H [u] x H' → Q u H') → Runs P f #[v] H Q

def ToA {α : Type} (P : Program) (f : FuncId) (r : Rd α) (w : α → Nat) : Prop :=
  ∀ H bs cs x (Q : Post), r.rel H bs cs x → w x ≤ 1048576 → (∀ H' cs', Fresh r H cs' x H' → Q (.agg cs'.toArray) H') → Runs P f #[.agg cs.toArray] H Q

def toSliceW (n : Nat) (z : Value) (ty : TypeId) (E : Cpy) (Q : Post) (a : Value) (H : Heap) : Prop :=
  W.len a H fun v1 H => W.make [z] ty v1 v1 H fun v2 H => W.loop (S := St [n]) (fun I s H =>
    W.len a H fun v3 H => W.bin .lss s.1 v3 H fun v4 H => W.cond v4 H
      (fun H => W.indexAddr 1 a s.1 H fun v5 H => W.get v5 H fun v6 H => E v6 H fun v7 H => W.indexAddr 1 v2 s.1 H fun v8 H => W.put v8 v7 H fun _ H => W.bin .add s.1 (.int .i64 1) H fun v9 H => I (v9, ()) H)
      (fun H => Q v2 H)) (.int .i64 0, ()) H

theorem reps_one (n : Nat) (z : Value) : reps n [z] = List.replicate n z := by
  induction n with
  | zero => rfl
  | succ n ih =>
    rw [List.replicate_succ, ← ih]
    simp [reps, List.replicate_succ]

/-! ### Structs -/

structure TFld where
  off : Nat
  n : Nat
  agg : Bool
  E : Cpy

inductive TfOK : Nat → {α : Type} → Rd α → (α → Nat) → List TFld → Prop
  | one {α : Type} {o : Nat} {r : Rd α} {w : α → Nat} {agg : Bool} {E : Cpy} {n : Nat} (hn : r.n = n) (ha : agg = false → n = 1) (h : ToV agg r w E) : TfOK o r w [⟨o, n, agg, E⟩]
  | pair {α β : Type} {o o' : Nat} {r : Rd α} {s : Rd β} {w : α → Nat} {w' : β → Nat} {fs gs : List TFld}
      (h1 : TfOK o r w fs) (ho : o + r.n = o') (h2 : TfOK o' s w' gs) : TfOK o (r.pair s) (szp w w') (fs ++ gs)

def putW (agg : Bool) (n : Nat) (p v : Value) (H : Heap) (k : Post) : Prop := match agg with | true => W.putN n p v H k | false => W.put p v H k

def toFields (T : Heap → Prop) (p q : Value) : List TFld → Heap → Prop
  | [], H => T H
  | f :: fs, H => W.fieldAddr f.off p H fun a H => getW f.agg f.n a H fun u H => f.E u H fun u' H => W.fieldAddr f.off q H fun c H => putW f.agg f.n c u' H fun _ H => toFields T p q fs H

def toStructW (n : Nat) (ty ty' : TypeId) (zero : List Value) (fs : List TFld) (Q : Post) (a : Value) (H : Heap) : Prop :=
  W.box a ty H fun v1 H => W.new zero ty' H fun v2 H => W.new zero ty' H fun v3 H =>
    toFields (fun H => W.getN n v3 H fun x H => W.putN n v2 x H fun _ H => W.getN n v2 H fun x H => Q x H) v1 v3 fs H

end Go.Ab

/-! Go's own slices functions, and guarded words. -/
namespace Go.Ab

section
variable {H : Heap} {k : Post} {op : Heap → Post → Prop}
theorem Wi.gT (h : op H k) : W.guarded (.bool true) true op H k := h
theorem Wi.gF (h : k undef H) : W.guarded (.bool false) true op H k := h
theorem Wi.nT (h : k undef H) : W.guarded (.bool true) false op H k := h
theorem Wi.nF (h : op H k) : W.guarded (.bool false) false op H k := h
theorem Wi.pickT {a b : Value} (h : k a H) : W.pick (.bool true) a b H k := h
theorem Wi.pickF {a b : Value} (h : k b H) : W.pick (.bool false) a b H k := h

/-- Both, the second looked at if the first holds. -/
theorem Wi.callV {P : Program} {f : FuncId} {xs cap : Array Value} (h : Runs P f (xs ++ cap) H k) : W.call P (.func (.func f) #[] cap) xs H k := by
  unfold W.call
  simpa using h
end

/-- A function value that tells whether something holds. -/
def PredF {α : Type} (P : Program) (fv : Value) (r : Rd α) (H : Heap) (p : α → Bool) : Prop :=
  ∀ H' bs u x (K : Post), H.Le H' → r.rel H' bs [u] x → (∀ H2, H'.Le H2 → K (.bool (p x)) H2) → W.call P fv #[u] H' K

def idxOf {α : Type} (p : α → Bool) (xs : List α) : Int := match xs.findIdx? p with | some i => i | none => -1

theorem idxOf_any {α : Type} (p : α → Bool) (xs : List α) : decide (0 ≤ idxOf p xs) = xs.any p := by
  unfold idxOf
  cases h : xs.findIdx? p with
  | none =>
    rw [List.findIdx?_eq_none_iff] at h
    have : xs.any p = false := by
      rw [List.any_eq_false]
      intro x hx
      simp [h x hx]
    rw [this]
    rfl
  | some i =>
    rw [List.findIdx?_eq_some_iff_getElem] at h
    obtain ⟨hi, hp, _⟩ := h
    have : xs.any p = true := List.any_eq_true.2 ⟨_, List.getElem_mem hi, hp⟩
    rw [this]
    simp

def indexFuncW (P : Program) (n : Nat) (Q : Post) (a f : Value) (H : Heap) : Prop :=
  W.len a H fun v1 H => W.loop (S := St [n]) (fun I s H => W.bin .lss s.1 v1 H fun v2 H => W.cond v2 H
    (fun H => W.indexAddr 1 a s.1 H fun v3 H => W.get v3 H fun v4 H => W.call P f #[v4] H fun v5 H => W.cond v5 H (fun H => Q s.1 H) (fun H => W.bin .add s.1 (.int .i64 1) H fun v6 H => I (v6, ()) H))
    (fun H => Q (.int .i64 (-1)) H)) (.int .i64 0, ()) H

theorem indexFunc_ok {α : Type} {P : Program} {r : Rd α} (hr : r.n = 1) {n : Nat} {Q : Post} {H : Heap} {bs : List Nat} {a fv : Value} {xs : List α} {p : α → Bool} (h : (Rd.slice r).rel H bs [a] xs) (hp : PredF P fv r H p)
    (hQ : ∀ H', H.Le H' → Q (.int .i64 (idxOf p xs)) H') : indexFuncW P n Q a fv H := by
  have hx := Rd.slice_small h
  obtain ⟨p1, e1, g1⟩ := Rd.slice_val h
  simp only [List.cons.injEq, and_true] at g1
  unfold indexFuncW
  rw [g1]
  refine Wi.len ?_
  rw [← g1]
  refine W.loop_rule (fun s H' => ∃ i : Nat, s = (.int .i64 i, ()) ∧ i ≤ xs.length ∧ H.Le H' ∧ ∀ (j : Nat) (hj : j < i) (g1 : j < xs.length), p xs[j] = false)
    (fun s _ => match s.1 with | .int _ i => xs.length - i.toNat | _ => 0) ⟨0, rfl, Nat.zero_le _, .refl _, fun j hj => by omega⟩ ?_
  rintro s H1 ⟨i, rfl, hi, hle, hno⟩
  refine Wi.lss (Wi.cond (fun hlt => ?_) fun hge => ?_)
  · have hix : i < xs.length := by simp only [decide_eq_true_eq] at hlt; omega
    obtain ⟨c1, o1, E1, k1, f1, q1, _, s1⟩ := Rd.slice_at (Rd.le _ h hle) hix
    obtain ⟨u1, m1, r1⟩ := s1.one hr hix
    rw [q1]
    refine Wi.index hix (Wi.get s1.blk m1 (hp _ _ _ _ _ hle r1 fun H2 l2 => Wi.cond (fun ht => ?_) fun hf => ?_))
    · have := hQ H2 (hle.trans l2)
      have e : idxOf p xs = i := by
        have : xs.findIdx? p = some i := List.findIdx?_eq_some_iff_getElem.2 ⟨hix, ht, fun j hj => by simp [hno j hj (by omega)]⟩
        simp [idxOf, this]
      rw [e] at this
      exact this
    · refine Wi.add (by unfold I64; omega) ⟨⟨i + 1, rfl, by omega, hle.trans l2, fun j hj g1 => ?_⟩, by simp only; omega⟩
      by_cases hji : j < i
      · exact hno j hji g1
      · have : j = i := by omega
        subst this
        exact hf
  · have : i = xs.length := by simp only [decide_eq_false_iff_not] at hge; omega
    subst this
    have e : idxOf p xs = -1 := by
      have : xs.findIdx? p = none := by
        rw [List.findIdx?_eq_none_iff]
        intro x hx
        obtain ⟨j, hj, rfl⟩ := List.mem_iff_getElem.1 hx
        exact hno j hj hj
      simp [idxOf, this]
    have := hQ H1 hle
    rw [e] at this
    exact this

def IndexF {α : Type} (P : Program) (f : FuncId) (r : Rd α) : Prop :=
  ∀ H bs a fv xs (p : α → Bool) (Q : Post), (Rd.slice r).rel H bs [a] xs → PredF P fv r H p → (∀ H', H.Le H' → Q (.int .i64 (idxOf p xs)) H') → Runs P f #[a, fv] H Q

theorem IndexF.of {α : Type} {P : Program} {f : FuncId} {r : Rd α} (hr : r.n = 1) {n : Nat} (enter : ∀ (Q : Post) (a fv : Value) (H : Heap), indexFuncW P n Q a fv H → Runs P f #[a, fv] H Q) : IndexF P f r :=
  fun _ _ _ _ _ _ _ h hp hQ => enter _ _ _ _ (indexFunc_ok hr h hp hQ)

def ContainsF {α : Type} (P : Program) (f : FuncId) (r : Rd α) : Prop :=
  ∀ H bs a fv xs (p : α → Bool) (Q : Post), (Rd.slice r).rel H bs [a] xs → PredF P fv r H p → (∀ H', H.Le H' → Q (.bool (xs.any p)) H') → Runs P f #[a, fv] H Q

def containsFuncW (P : Program) (g : FuncId) (Q : Post) (a f : Value) (H : Heap) : Prop :=
  W.call P (.func (.func g) #[] #[]) #[a, f] H fun v1 H => W.bin .geq v1 (.int .i64 0) H fun v2 H => Q v2 H

theorem ContainsF.of {α : Type} {P : Program} {f g : FuncId} {r : Rd α} (hg : IndexF P g r) (enter : ∀ (Q : Post) (a fv : Value) (H : Heap), containsFuncW P g Q a fv H → Runs P f #[a, fv] H Q) : ContainsF P f r :=
  fun _ _ _ _ _ p _ h hp hQ => enter _ _ _ _ (Wi.call (hg _ _ _ _ _ p _ h hp fun H' l => Wi.geq (by rw [idxOf_any]; exact hQ H' l)))

end Go.Ab

/-! Slices that grow by append, and writes into what a call has made. -/
namespace Go.Ab

/-- A slice that grows: nil or of blocks from number n0 on, all its block in use. -/
structure GrN {α : Type} (r : Rd α) (ty : TypeId) (n0 : Nat) (v : Value) (xs : List α) (H : Heap) : Prop where
  low : n0 ≤ H.next
  shape : (v = .slice none 0 0 ∧ xs = []) ∨ ∃ (b e : Nat) (kb : Blk) (fs : Nat → List Nat), v = .slice (some (adr b 0)) xs.length e ∧ e / 2 = xs.length ∧ xs.length < 9223372036854775808 ∧ b < H.next ∧ H.blk b = some kb ∧ kb.ro = false ∧ kb.ty = ty ∧ kb.esz = r.n ∧
    kb.cells.length = xs.length * r.n ∧ kb.cells.all isCell = true ∧ n0 ≤ b ∧
    (∀ i (h : i < xs.length), r.rel H (fs i) (cellsAt r.n kb.cells 0 i) xs[i] ∧ (fs i).Nodup ∧ (∀ c ∈ fs i, n0 ≤ c ∧ c ≠ b) ∧ RW H (fs i)) ∧ ∀ i j, i < j → j < xs.length → ∀ c ∈ fs i, c ∉ fs j

/-- The same, all that was as it was. -/
structure Gr {α : Type} (r : Rd α) (ty : TypeId) (H0 : Heap) (v : Value) (xs : List α) (H : Heap) : Prop where
  le : H0.Le H
  gr : GrN r ty H0.next v xs H

/-- All blocks but one are as they were. -/
structure Heap.LeB (H : Heap) (b : Nat) (H' : Heap) : Prop where
  next : H.next ≤ H'.next
  blk : ∀ c, c < H.next → c ≠ b → H'.blk c = H.blk c

theorem cellsAt_append_left {n : Nat} {a b : List Value} {i : Nat} (h : i * n + n ≤ a.length) : cellsAt n (a ++ b) 0 i = cellsAt n a 0 i := by
  unfold cellsAt
  rw [Nat.zero_add, List.drop_append_of_le_length (by omega), List.take_append_of_le_length (by simp; omega)]

end Go.Ab

/-! Writes into slices and structs. -/
namespace Go.Ab

theorem Marked.refl {α : Type} {r : Rd α} {H : Heap} {bs : List Nat} {cs : List Value} {x : α} (h : r.rel H bs cs x) (hrw : RW H bs) : Marked r H bs cs x H := ⟨Nat.le_refl _, h, fun _ _ _ => rfl, hrw⟩

theorem Marked.trans {α : Type} {r : Rd α} {H H1 H2 : Heap} {bs : List Nat} {cs : List Value} {x y : α} (m : Marked r H bs cs x H1) (m2 : Marked r H1 bs cs y H2) : Marked r H bs cs y H2 :=
  ⟨Nat.le_trans m.next m2.next, m2.rel, fun c hc hcb => by rw [m2.off c (Nat.lt_of_lt_of_le hc m.next) hcb, m.off c hc hcb], m2.rw⟩

/-- One number of a list, written. -/
theorem Wi.setInt {H : Heap} {bs : List Nat} {v : Value} {xs : List Int} {i : Nat} {y : Int} {κ : IntKind} {K : Post} (h : (Rd.slice Rd.int).rel H bs [v] xs) (hrw : RW H bs) (hi : i < xs.length) (hy : I64 y)
    (hK : ∀ H', Marked (Rd.slice Rd.int) H bs [v] (xs.set i y) H' → K undef H') : W.indexAddr 1 v (.int κ i) H fun p H => W.put p (.int .i64 y) H K := by
  obtain ⟨b, o, e, kb, fs, q1, q2, s⟩ := Rd.slice_at h hi
  have hin := s.in hi
  simp only [Rd.int] at hin
  rw [q1]
  refine Wi.index hi (Wi.put s.blk rfl (hrw b (by rw [q2]; simp) kb s.blk) (by omega) fun H' w => ?_)
  have hfs : ∀ j (hj : j < xs.length), fs j = [] := fun j hj => (s.each j hj).1
  have hbs : ∀ c ∈ bs, c = b := fun c hc => by
    rw [q2, List.mem_cons, List.mem_flatMap] at hc
    rcases hc with h | ⟨j, hj, hc⟩
    · exact h
    · rw [hfs j (by simpa using hj)] at hc; cases hc
  refine hK H' ⟨by rw [w.next]; exact Nat.le_refl _, .inr ⟨b, o, e, _, fs, by rw [q2, List.length_set], by rw [List.length_set]; first | done | rw [q1], ⟨by rw [w.next]; exact s.lt, w.here, by rw [List.length_set]; exact s.cap, by rw [List.length_set]; exact s.small, by
      rw [List.length_set]; simpa using s.room, fun j hj => ?_⟩⟩, fun c hc hcb => w.off c fun e => hcb (by rw [e, q2]; simp), fun c hc kc hk => ?_⟩
  · rw [List.length_set] at hj
    have := s.each j hj
    obtain ⟨g1, g2, g3⟩ := this
    have hinj := s.in hj
    simp only [Rd.int] at hinj
    refine ⟨g1, ?_, ?_⟩
    · have g2' : cellsAt 1 kb.cells o j = [.int .i64 xs[j]] := g2
      show cellsAt 1 _ o j = _
      rw [cellsAt_one (by simp; omega)]
      rw [cellsAt_one (by omega)] at g2'
      simp only [List.cons.injEq, and_true] at g2'
      rw [List.getElem_set, List.getElem_set]
      by_cases hij : i = j
      · subst hij; simp
      · rw [if_neg (by omega), if_neg hij, g2']
    · rw [List.getElem_set]
      split
      · exact hy
      · exact g3
  · rw [hbs c hc, w.here] at hk
    cases hk
    exact hrw b (by rw [q2]; simp) kb s.blk

end Go.Ab
