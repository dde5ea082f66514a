/- Values that a call has made. -/
import Derived.Test.YtdbdmlfnggbdiaaZabLaw4
namespace Go.Ab

/-- What a call has made: blocks that were not there, each once, none of them read-only; and all that was is as it was. -/
structure Fresh {α : Type} (r : Rd α) (H : Heap) (cs : List Value) (x : α) (H' : Heap) : Prop where
  le : H.Le H'
  has : ∃ bs, r.rel H' bs cs x ∧ bs.Nodup ∧ (∀ c ∈ bs, H.next ≤ c) ∧ RW H' bs

theorem Fresh.from {α : Type} {r : Rd α} {H0 H : Heap} {cs : List Value} {x : α} {H' : Heap} (f : Fresh r H cs x H') (l : H0.Le H) : Fresh r H0 cs x H' :=
  ⟨l.trans f.le, let ⟨bs, h1, h2, h3, h4⟩ := f.has; ⟨bs, h1, h2, fun c hc => Nat.le_trans l.next (h3 c hc), h4⟩⟩

theorem Fresh.to {α : Type} {r : Rd α} {H H1 H2 : Heap} {cs : List Value} {x : α} (f : Fresh r H cs x H1) (l : H1.Le H2) : Fresh r H cs x H2 :=
  ⟨f.le.trans l, let ⟨bs, h1, h2, h3, h4⟩ := f.has; ⟨bs, Rd.le _ h1 l, h2, h3, h4.le l (r.low h1)⟩⟩

/-- Two things that were made one after the other. -/
theorem Fresh.pair {α β : Type} {r : Rd α} {s : Rd β} {H H1 H2 : Heap} {c1 c2 : List Value} {x : α} {y : β} (f : Fresh r H c1 x H1) (g : Fresh s H1 c2 y H2) : Fresh (r.pair s) H (c1 ++ c2) (x, y) H2 := by
  obtain ⟨b1, p1, p2, p3, p4⟩ := f.has
  obtain ⟨b2, q1, q2, q3, q4⟩ := g.has
  refine ⟨f.le.trans g.le, b1 ++ b2, ⟨b1, b2, c1, c2, rfl, rfl, Rd.le _ p1 g.le, q1⟩, List.nodup_append.2 ⟨p2, q2, fun a ha b hb hab => ?_⟩, fun c hc => ?_, fun c hc => ?_⟩
  · have := r.low p1 a ha
    have := q3 b hb
    omega
  · rcases List.mem_append.1 hc with hc | hc
    · exact p3 c hc
    · exact Nat.le_trans f.le.next (q3 c hc)
  · rcases List.mem_append.1 hc with hc | hc
    · exact p4.le g.le (r.low p1) c hc
    · exact q4 c hc

theorem Fresh.int {H H' : Heap} {n : Int} (l : H.Le H') (h : I64 n) : Fresh Rd.int H [.int .i64 n] n H' :=
  ⟨l, [], ⟨rfl, rfl, h⟩, List.nodup_nil, (fun c hc => by cases hc), (fun c hc => by cases hc)⟩

theorem Fresh.pair' {α β : Type} {r : Rd α} {s : Rd β} {H H1 H2 : Heap} {c1 c2 cs : List Value} {x : α} {y : β} (f : Fresh r H c1 x H1) (g : Fresh s H1 c2 y H2) (h : cs = c1 ++ c2) : Fresh (r.pair s) H cs (x, y) H2 := h ▸ f.pair g

/-- A new block of elements; what lies in them was made just before. -/
theorem Fresh.slice {α : Type} {r : Rd α} {H H1 H2 : Heap} {kb : Blk} {xs : List α} {e : Nat} (fs : Nat → List Nat) (l : H.Le H1) (l2 : H1.Le H2) (hlt : H1.next < H2.next) (hb : H2.blk H1.next = some kb) (hro : kb.ro = false)
    (hc : 2 * xs.length ≤ e) (hs : xs.length < 9223372036854775808) (hr : xs.length * r.n ≤ kb.cells.length)
    (he : ∀ i (h : i < xs.length), r.rel H1 (fs i) (cellsAt r.n kb.cells 0 i) xs[i] ∧ (fs i).Nodup ∧ (∀ c ∈ fs i, H.next ≤ c) ∧ RW H1 (fs i))
    (hd : ∀ i j, i < j → j < xs.length → ∀ c ∈ fs i, c ∉ fs j) : Fresh (Rd.slice r) H [.slice (some (adr H1.next 0)) xs.length e] xs H2 := by
  have low : ∀ i (h : i < xs.length), ∀ c ∈ fs i, c < H1.next := fun i h c hc => r.low (he i h).1 c hc
  refine ⟨l.trans l2, H1.next :: (List.range xs.length).flatMap fs, .inr ⟨_, 0, e, kb, fs, rfl, rfl, ⟨hlt, hb, hc, hs, by omega, fun i hi => Rd.le _ (he i hi).1 l2⟩⟩, ?_, ?_, ?_⟩
  · refine List.nodup_cons.2 ⟨fun hm => ?_, List.pairwise_flatMap.2 ⟨fun i hi => (he i (by simpa using hi)).2.1, ?_⟩⟩
    · obtain ⟨i, hi, hc⟩ := List.mem_flatMap.1 hm
      have := low i (by simpa using hi) _ hc
      omega
    · refine List.pairwise_iff_getElem.2 fun i j hi hj hij c hc d hd' hcd => ?_
      simp only [List.length_range] at hi hj
      simp only [List.getElem_range] at hc hd'
      subst hcd
      exact hd i j hij hj c hc hd'
  · intro c hc
    rcases List.mem_cons.1 hc with rfl | hc
    · exact l.next
    · obtain ⟨i, hi, hc⟩ := List.mem_flatMap.1 hc
      exact (he i (by simpa using hi)).2.2.1 c hc
  · intro c hc kc hk
    rcases List.mem_cons.1 hc with rfl | hc
    · rw [hb] at hk; cases hk; exact hro
    · obtain ⟨i, hi, hc⟩ := List.mem_flatMap.1 hc
      have hi : i < xs.length := by simpa using hi
      exact (he i hi).2.2.2.le l2 (low i hi) c hc kc hk

theorem cellsAt_map {α : Type} (g : α → Value) (xs : List α) {i : Nat} (h : i < xs.length) : cellsAt 1 (xs.map g) 0 i = [g xs[i]] := by
  rw [cellsAt_one (by simp; omega)]
  simp

/-- A new list of numbers. -/
theorem Fresh.ints {H H1 H2 : Heap} {kb : Blk} {xs : List Int} {e : Nat} (l : H.Le H1) (l2 : H1.Le H2) (hlt : H1.next < H2.next) (hb : H2.blk H1.next = some kb) (hro : kb.ro = false)
    (hcells : kb.cells = xs.map (fun x => .int .i64 x)) {n : Nat} (hn : n = xs.length) (hc : 2 * n ≤ e) (hs : n < 9223372036854775808) (hi : ∀ x ∈ xs, I64 x) :
    Fresh (Rd.slice Rd.int) H [.slice (some (adr H1.next 0)) n e] xs H2 := by
  subst hn
  exact Fresh.slice (fun _ => []) l l2 hlt hb hro hc hs (by rw [hcells]; simp [Rd.int]) (fun i h => ⟨⟨rfl, by
    rw [hcells]; exact cellsAt_map _ _ h, hi _ (List.getElem_mem h)⟩, List.nodup_nil, (fun c hc => by cases hc), (fun c hc => by cases hc)⟩) fun i j _ _ c hc => by cases hc

/-- Elements made one after the other, all of their blocks from number m on. -/
structure FreshL {α : Type} (r : Rd α) (H : Heap) (m : Nat) (us : List Value) (xs : List α) (H' : Heap) : Prop where
  le : H.Le H'
  low : H.next ≤ m
  high : m ≤ H'.next
  len : us.length = xs.length
  has : ∃ fs : Nat → List Nat, (∀ i (h : i < xs.length) (h' : i < us.length), r.rel H' (fs i) [us[i]] xs[i] ∧ (fs i).Nodup ∧ (∀ c ∈ fs i, m ≤ c) ∧ RW H' (fs i)) ∧
    ∀ i j, i < j → j < xs.length → ∀ c ∈ fs i, c ∉ fs j

theorem FreshL.nil {α : Type} {r : Rd α} {H H' : Heap} {m : Nat} (l : H.Le H') (h1 : H.next ≤ m) (h2 : m ≤ H'.next) : FreshL r H m [] [] H' := ⟨l, h1, h2, rfl, fun _ => [], (fun i h => by simp at h), fun i j _ h => by simp at h⟩

theorem FreshL.nil' {α : Type} {r : Rd α} {H : Heap} : FreshL r H H.next [] [] H := .nil (.refl _) (Nat.le_refl _) (Nat.le_refl _)

theorem FreshL.to {α : Type} {r : Rd α} {H H1 H2 : Heap} {m : Nat} {us : List Value} {xs : List α} (f : FreshL r H m us xs H1) (l : H1.Le H2) : FreshL r H m us xs H2 := by
  obtain ⟨fs, h1, h2⟩ := f.has
  refine ⟨f.le.trans l, f.low, Nat.le_trans f.high l.next, f.len, fs, fun i h h' => ?_, h2⟩
  obtain ⟨g1, g2, g3, g4⟩ := h1 i h h'
  exact ⟨Rd.le _ g1 l, g2, g3, g4.le l (r.low g1)⟩

theorem FreshL.put {α : Type} {r : Rd α} {H H1 H2 : Heap} {m b : Nat} {kb : Blk} {us : List Value} {xs : List α} (f : FreshL r H m us xs H1) (w : H1.Wr b kb H2) (h0 : H.next ≤ b) (hb : b < m) : FreshL r H m us xs H2 := by
  obtain ⟨fs, h1, h2⟩ := f.has
  refine ⟨w.le f.le h0, f.low, by rw [w.next]; exact f.high, f.len, fs, fun i h h' => ?_, h2⟩
  obtain ⟨g1, g2, g3, g4⟩ := h1 i h h'
  have ne : ∀ c ∈ fs i, c ≠ b := fun c hc e => by have := g3 c hc; omega
  exact ⟨r.frame g1 (by rw [w.next]; exact Nat.le_refl _) (fun c hc => w.off c (ne c hc)), g2, g3, fun c hc kc hk => g4 c hc kc (by rw [← w.off c (ne c hc)]; exact hk)⟩

theorem FreshL.snoc {α : Type} {r : Rd α} {H H1 H2 : Heap} {m : Nat} {us : List Value} {xs : List α} {u : Value} {x : α} (f : FreshL r H m us xs H1) (g : Fresh r H1 [u] x H2) : FreshL r H m (us ++ [u]) (xs ++ [x]) H2 := by
  obtain ⟨fs, h1, h2⟩ := f.has
  obtain ⟨bs, p1, p2, p3, p4⟩ := g.has
  have hl := f.len
  refine ⟨f.le.trans g.le, f.low, Nat.le_trans f.high g.le.next, by simp [hl], fun i => if i < xs.length then fs i else bs, fun i h h' => ?_, fun i j hij hj c hc => ?_⟩
  · by_cases hi : i < xs.length
    · obtain ⟨g1, g2, g3, g4⟩ := h1 i hi (by omega)
      simp only [if_pos hi]
      rw [List.getElem_append_left hi, List.getElem_append_left (by omega)]
      exact ⟨Rd.le _ g1 g.le, g2, g3, g4.le g.le (r.low g1)⟩
    · have e : i = xs.length := by simp at h; omega
      subst e
      simp only [if_neg hi]
      rw [List.getElem_append_right (by omega), List.getElem_append_right (by omega)]
      simp only [hl, Nat.sub_self, List.getElem_cons_zero]
      exact ⟨p1, p2, fun c hc => Nat.le_trans f.high (p3 c hc), p4⟩
  · simp at hj
    have hi : i < xs.length := by omega
    simp only [if_pos hi] at hc
    by_cases hj' : j < xs.length
    · simp only [if_pos hj']
      exact h2 i j hij hj' c hc
    · simp only [if_neg hj']
      intro hcb
      have := p3 c hcb
      have := r.low (h1 i hi (by omega)).1 c hc
      omega

/-- A slice of what was made, its own block being older than theirs. -/
theorem FreshL.slice {α : Type} {r : Rd α} {H H2 : Heap} {m : Nat} {us : List Value} {xs : List α} {b n e : Nat} {kb : Blk} (hr : r.n = 1) (f : FreshL r H m us xs H2) (hlt : b < H2.next) (hb : H2.blk b = some kb)
    (hro : kb.ro = false) (hcells : kb.cells = us) (hn : n = xs.length) (hc : 2 * n ≤ e) (hs : n < 9223372036854775808) (hbm : b < m) (hb0 : H.next ≤ b) : Fresh (Rd.slice r) H [.slice (some (adr b 0)) n e] xs H2 := by
  subst hn
  obtain ⟨fs, h1, h2⟩ := f.has
  have hl := f.len
  have each : ∀ i (h : i < xs.length), r.rel H2 (fs i) (cellsAt r.n kb.cells 0 i) xs[i] ∧ (fs i).Nodup ∧ (∀ c ∈ fs i, m ≤ c) ∧ RW H2 (fs i) := fun i h => by
    have := h1 i h (by omega)
    rw [hr, hcells, cellsAt_one (by omega)]
    simp only [Nat.zero_add, Nat.mul_one]
    exact this
  refine ⟨f.le, b :: (List.range xs.length).flatMap fs, .inr ⟨b, 0, e, kb, fs, rfl, rfl, ⟨hlt, hb, hc, hs, by rw [hr, hcells]; omega, fun i hi => (each i hi).1⟩⟩, ?_, ?_, ?_⟩
  · refine List.nodup_cons.2 ⟨fun hm => ?_, List.pairwise_flatMap.2 ⟨fun i hi => (each i (by simpa using hi)).2.1, ?_⟩⟩
    · obtain ⟨i, hi, hc⟩ := List.mem_flatMap.1 hm
      have := (each i (by simpa using hi)).2.2.1 _ hc
      omega
    · refine List.pairwise_iff_getElem.2 fun i j hi hj hij c hc d hd' hcd => ?_
      simp only [List.length_range] at hi hj
      simp only [List.getElem_range] at hc hd'
      subst hcd
      exact h2 i j hij hj c hc hd'
  · intro c hc
    rcases List.mem_cons.1 hc with rfl | hc
    · exact hb0
    · obtain ⟨i, hi, hc⟩ := List.mem_flatMap.1 hc
      exact Nat.le_trans f.low ((each i (by simpa using hi)).2.2.1 c hc)
  · intro c hc kc hk
    rcases List.mem_cons.1 hc with rfl | hc
    · rw [hb] at hk; cases hk; exact hro
    · obtain ⟨i, hi, hc⟩ := List.mem_flatMap.1 hc
      exact (each i (by simpa using hi)).2.2.2 c hc kc hk

/-- The same, the slice's block made last. -/
theorem FreshL.slice' {α : Type} {r : Rd α} {H H1 H2 : Heap} {m : Nat} {us : List Value} {xs : List α} {n e : Nat} {kb : Blk} (hr : r.n = 1) (f : FreshL r H m us xs H1) (l : H1.Le H2) (hlt : H1.next < H2.next) (hb : H2.blk H1.next = some kb)
    (hro : kb.ro = false) (hcells : kb.cells = us) (hn : n = xs.length) (hc : 2 * n ≤ e) (hs : n < 9223372036854775808) : Fresh (Rd.slice r) H [.slice (some (adr H1.next 0)) n e] xs H2 := by
  subst hn
  obtain ⟨fs, h1, h2⟩ := f.has
  have hl := f.len
  refine Fresh.slice fs f.le l hlt hb hro hc hs (by rw [hr, hcells]; omega) (fun i h => ?_) h2
  have := h1 i h (by omega)
  rw [hr, hcells, cellsAt_one (by omega)]
  simp only [Nat.zero_add, Nat.mul_one]
  exact ⟨this.1, this.2.1, fun c hc => Nat.le_trans f.low (this.2.2.1 c hc), this.2.2.2⟩

/-- A write to a block that is older than what was made, but not as old as what was there. -/
theorem Fresh.put {α : Type} {r : Rd α} {H0 H H1 H2 : Heap} {cs : List Value} {x : α} {b : Nat} {kb : Blk} (f : Fresh r H cs x H1) (l : H0.Le H) (w : H1.Wr b kb H2) (h0 : H0.next ≤ b) (hb : b < H.next) : Fresh r H0 cs x H2 := by
  obtain ⟨bs, p1, p2, p3, p4⟩ := f.has
  have ne : ∀ c ∈ bs, c ≠ b := fun c hc e => by have := p3 c hc; omega
  refine ⟨w.le (l.trans f.le) h0, bs, r.frame p1 (by rw [w.next]; exact Nat.le_refl _) (fun c hc => w.off c (ne c hc)), p2, fun c hc => Nat.le_trans l.next (p3 c hc), fun c hc kc hk => ?_⟩
  rw [w.off c (ne c hc)] at hk
  exact p4 c hc kc hk

/-- A variable of its own block, set at once. -/
theorem Wi.var {zero cs : List Value} {ty : TypeId} {n : Nat} {H : Heap} {K : Value → Heap → Prop} (hz : zero.length = n) (hl : cs.length = n) (hc : cs.all isCell = true)
    (h : ∀ H', H.Le H' → H'.next = H.next + 1 → H'.blk H.next = some ⟨cs, ty, n, false⟩ → K (pt H.next 0) H') : W.new zero ty H fun p H => W.putN n p (.agg cs.toArray) H fun _ H => K p H := by
  refine Wi.new fun H1 l1 n1 k1 => Wi.putN k1 (by simpa using hl) (by simpa using hc) rfl (by simp [hz]) fun H2 w2 => ?_
  refine h H2 (w2.le l1 (Nat.le_refl _)) (by rw [w2.next, n1]) ?_
  rw [w2.here]
  simp [hz]

theorem Wi.getA {n b : Nat} {cs : List Value} {ty : TypeId} {e : Nat} {ro : Bool} {H : Heap} {k : Post} (hb : H.blk b = some ⟨cs, ty, e, ro⟩) (hl : cs.length = n) (h : k (.agg cs.toArray) H) : W.getN n (pt b 0) H k := by
  refine Wi.getN hb (by simp [hl]) ?_
  rw [List.drop_zero, List.take_of_length_le (by simp [hl])]
  exact h

/-- A struct made by a function that takes nothing. -/
def MakesA {α : Type} (P : Program) (f : FuncId) (r : Rd α) (x : α) : Prop := ∀ H (Q : Post), (∀ H' cs, Fresh r H cs x H' → Q (.agg cs.toArray) H') → Runs P f #[] H Q

end Go.Ab
