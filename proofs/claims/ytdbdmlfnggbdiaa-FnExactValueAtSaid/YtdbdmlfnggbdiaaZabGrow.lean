/- Slices that grow by append, and writes into what a call has made. -/
import Derived.Test.YtdbdmlfnggbdiaaZabLib
namespace Go.Ab

/-- A new slice, told by its elements. -/
theorem Fresh.mk' {α : Type} {r : Rd α} {H0 H : Heap} {b n e : Nat} {kb : Blk} {xs : List α} (fs : Nat → List Nat) (l : H0.Le H) (hlt : b < H.next) (hb : H.blk b = some kb) (hro : kb.ro = false) (hn : n = xs.length)
    (hc : 2 * n ≤ e) (hs : n < 9223372036854775808) (hr : n * r.n ≤ kb.cells.length) (hb0 : H0.next ≤ b)
    (he : ∀ i (h : i < xs.length), r.rel H (fs i) (cellsAt r.n kb.cells 0 i) xs[i] ∧ (fs i).Nodup ∧ (∀ c ∈ fs i, H0.next ≤ c ∧ c ≠ b) ∧ RW H (fs i))
    (hd : ∀ i j, i < j → j < xs.length → ∀ c ∈ fs i, c ∉ fs j) : Fresh (Rd.slice r) H0 [.slice (some (adr b 0)) n e] xs H := by
  subst hn
  refine ⟨l, b :: (List.range xs.length).flatMap fs, .inr ⟨_, 0, e, kb, fs, rfl, rfl, ⟨hlt, hb, hc, hs, by omega, fun i hi => (he i hi).1⟩⟩, ?_, ?_, ?_⟩
  · refine List.nodup_cons.2 ⟨fun hm => ?_, List.pairwise_flatMap.2 ⟨fun i hi => (he i (by simpa using hi)).2.1, ?_⟩⟩
    · obtain ⟨i, hi, hc⟩ := List.mem_flatMap.1 hm
      exact ((he i (by simpa using hi)).2.2.1 _ hc).2 rfl
    · refine List.pairwise_iff_getElem.2 fun i j hi hj hij c hc d hd' hcd => ?_
      simp only [List.length_range] at hi hj
      simp only [List.getElem_range] at hc hd'
      subst hcd
      exact hd i j hij hj c hc hd'
  · intro c hc
    rcases List.mem_cons.1 hc with rfl | hc
    · exact hb0
    · obtain ⟨i, hi, hc⟩ := List.mem_flatMap.1 hc
      exact ((he i (by simpa using hi)).2.2.1 c hc).1
  · intro c hc kc hk
    rcases List.mem_cons.1 hc with rfl | hc
    · rw [hb] at hk; cases hk; exact hro
    · obtain ⟨i, hi, hc⟩ := List.mem_flatMap.1 hc
      exact (he i (by simpa using hi)).2.2.2 c hc kc hk

/-- A slice that grows: nil or of blocks from number n0 on, all its block in use. -/
structure GrN {α : Type} (r : Rd α) (ty : TypeId) (n0 : Nat) (v : Value) (xs : List α) (H : Heap) : Prop where
  low : n0 ≤ H.next
  shape : (v = .slice none 0 0 ∧ xs = []) ∨ ∃ (b e : Nat) (kb : Blk) (fs : Nat → List Nat), v = .slice (some (adr b 0)) xs.length e ∧ e / 2 = xs.length ∧ xs.length < 9223372036854775808 ∧ b < H.next ∧ H.blk b = some kb ∧ kb.ro = false ∧ kb.ty = ty ∧ kb.esz = r.n ∧
    kb.cells.length = xs.length * r.n ∧ kb.cells.all isCell = true ∧ n0 ≤ b ∧
    (∀ i (h : i < xs.length), r.rel H (fs i) (cellsAt r.n kb.cells 0 i) xs[i] ∧ (fs i).Nodup ∧ (∀ c ∈ fs i, n0 ≤ c ∧ c ≠ b) ∧ RW H (fs i)) ∧ ∀ i j, i < j → j < xs.length → ∀ c ∈ fs i, c ∉ fs j

/-- The same, all that was as it was. -/
structure Gr {α : Type} (r : Rd α) (ty : TypeId) (H0 : Heap) (v : Value) (xs : List α) (H : Heap) : Prop where
  le : H0.Le H
  gr : GrN r ty H0.next v xs H

theorem Gr.nil {α : Type} {r : Rd α} {ty : TypeId} {H0 H : Heap} (l : H0.Le H) : Gr r ty H0 (.slice none 0 0) [] H := ⟨l, l.next, .inl ⟨rfl, rfl⟩⟩

theorem GrN.put {α : Type} {r : Rd α} {ty : TypeId} {n0 : Nat} {H H1 : Heap} {v : Value} {xs : List α} (g : GrN r ty n0 v xs H) (hn : H.next ≤ H1.next) (hb : ∀ c, n0 ≤ c → c < H.next → H1.blk c = H.blk c) : GrN r ty n0 v xs H1 := by
  refine ⟨Nat.le_trans g.low hn, ?_⟩
  rcases g.shape with h | ⟨b, e, kb, fs, rfl, h1, h2, h3, h4, h5, h5', h5'', h6, h6', h7, h8, h9⟩
  · exact .inl h
  · refine .inr ⟨b, e, kb, fs, rfl, h1, h2, Nat.lt_of_lt_of_le h3 hn, by rw [hb b h7 h3]; exact h4, h5, h5', h5'', h6, h6', h7, fun i hi => ?_, h9⟩
    obtain ⟨g1, g2, g3, g4⟩ := h8 i hi
    have same : ∀ c ∈ fs i, H1.blk c = H.blk c := fun c hc => hb c (g3 c hc).1 (r.low g1 c hc)
    exact ⟨r.frame g1 hn same, g2, g3, fun c hc kc hk => g4 c hc kc (by rw [← same c hc]; exact hk)⟩

/-- What has grown reads so, its blocks from n0 on. -/
theorem GrN.has {α : Type} {r : Rd α} {ty : TypeId} {n0 : Nat} {H : Heap} {v : Value} {xs : List α} (g : GrN r ty n0 v xs H) : ∃ bs, (Rd.slice r).rel H bs [v] xs ∧ bs.Nodup ∧ (∀ c ∈ bs, n0 ≤ c) ∧ RW H bs := by
  have h : Fresh (Rd.slice r) ⟨fun c => if c < n0 then H.blk c else none, n0⟩ [v] xs H := by
    have l : Heap.Le ⟨fun c => if c < n0 then H.blk c else none, n0⟩ H := ⟨g.low, fun c hc => by simp only [] at hc ⊢; rw [if_pos hc]⟩
    rcases g.shape with ⟨rfl, rfl⟩ | ⟨b, e, kb, fs, rfl, h1, h2, h3, h4, h5, _, _, h6, _, h7, h8, h9⟩
    · exact ⟨l, [], .inl ⟨rfl, rfl, .inl rfl⟩, List.nodup_nil, (fun c hc => by cases hc), (fun c hc => by cases hc)⟩
    · exact Fresh.mk' fs l h3 h4 h5 rfl (by omega) h2 (by omega) h7 h8 h9
  exact h.has

theorem Gr.fresh {α : Type} {r : Rd α} {ty : TypeId} {H0 H : Heap} {v : Value} {xs : List α} (g : Gr r ty H0 v xs H) : Fresh (Rd.slice r) H0 [v] xs H := by
  rcases g.gr.shape with ⟨rfl, rfl⟩ | ⟨b, e, kb, fs, rfl, h1, h2, h3, h4, h5, _, _, h6, _, h7, h8, h9⟩
  · exact ⟨g.le, [], .inl ⟨rfl, rfl, .inl rfl⟩, List.nodup_nil, (fun c hc => by cases hc), (fun c hc => by cases hc)⟩
  · exact Fresh.mk' fs g.le h3 h4 h5 rfl (by omega) h2 (by omega) h7 h8 h9

theorem Gr.to {α : Type} {r : Rd α} {ty : TypeId} {H0 H H1 : Heap} {v : Value} {xs : List α} (g : Gr r ty H0 v xs H) (l : H.Le H1) : Gr r ty H0 v xs H1 := by
  refine ⟨g.le.trans l, Nat.le_trans g.gr.low l.next, ?_⟩
  rcases g.gr.shape with h | ⟨b, e, kb, fs, rfl, h1, h2, h3, h4, h5, h5', h5'', h6, h6', h7, h8, h9⟩
  · exact .inl h
  · exact .inr ⟨b, e, kb, fs, rfl, h1, h2, Nat.lt_of_lt_of_le h3 l.next, l.at h4 h3, h5, h5', h5'', h6, h6', h7, fun i hi => ⟨Rd.le _ (h8 i hi).1 l, (h8 i hi).2.1, (h8 i hi).2.2.1, (h8 i hi).2.2.2.le l (r.low (h8 i hi).1)⟩, h9⟩

/-- The empty literal. -/
theorem Gr.lit0 {α : Type} {r : Rd α} {ty : TypeId} {H0 H : Heap} {kb : Blk} {b : Nat} (l : H0.Le H) (hb : H.blk b = some kb) (hlt : b < H.next) (h0 : H0.next ≤ b) (hro : kb.ro = false) (hty : kb.ty = ty) (hsz : kb.esz = r.n) (hc : kb.cells = []) :
    Gr r ty H0 (.slice (some (adr b 0)) 0 0) [] H :=
  ⟨l, l.next, .inr ⟨b, 0, kb, fun _ => [], rfl, rfl, by simp, hlt, hb, hro, hty, hsz, by simp [hc], by simp [hc], h0, (fun i h => by simp at h), fun i j _ h => by simp at h⟩⟩

/-- All blocks but one are as they were. -/
structure Heap.LeB (H : Heap) (b : Nat) (H' : Heap) : Prop where
  next : H.next ≤ H'.next
  blk : ∀ c, c < H.next → c ≠ b → H'.blk c = H.blk c

theorem cellsAt_append_left {n : Nat} {a b : List Value} {i : Nat} (h : i * n + n ≤ a.length) : cellsAt n (a ++ b) 0 i = cellsAt n a 0 i := by
  unfold cellsAt
  rw [Nat.zero_add, List.drop_append_of_le_length (by omega), List.take_append_of_le_length (by simp; omega)]

theorem GrN.build {α : Type} {r : Rd α} {ty : TypeId} {n0 : Nat} {H : Heap} {xs zs : List α} {old new : List Value} {nb n : Nat} (hr : r.n = 1) (hb : H.blk nb = some ⟨old ++ new, ty, 1, false⟩) (hlt : nb < H.next) (h0 : n0 ≤ nb)
    (ho : old.length = xs.length) (hnew : new.length = zs.length) (hoc : old.all isCell = true) (hnc : new.all isCell = true) (hn : n = xs.length + zs.length) (hlen : n ≤ 16777216) (fs gs : Nat → List Nat)
    (hx : ∀ i (h : i < xs.length), r.rel H (fs i) (cellsAt r.n old 0 i) xs[i] ∧ (fs i).Nodup ∧ (∀ c ∈ fs i, n0 ≤ c ∧ c ≠ nb) ∧ RW H (fs i)) (hxd : ∀ i j, i < j → j < xs.length → ∀ c ∈ fs i, c ∉ fs j)
    (hz : ∀ i (h : i < zs.length) (h' : i < new.length), r.rel H (gs i) [new[i]] zs[i] ∧ (gs i).Nodup ∧ (∀ c ∈ gs i, n0 ≤ c ∧ c ≠ nb) ∧ RW H (gs i)) (hzd : ∀ i j, i < j → j < zs.length → ∀ c ∈ gs i, c ∉ gs j)
    (hxz : ∀ i j, i < xs.length → j < zs.length → ∀ c ∈ fs i, c ∉ gs j) : GrN r ty n0 (.slice (some (adr nb 0)) n (2 * n + 1)) (xs ++ zs) H := by
  subst hn
  have hl : (xs ++ zs).length = xs.length + zs.length := by simp
  refine ⟨by omega, .inr ⟨nb, _, _, fun i => if i < xs.length then fs i else gs (i - xs.length), by rw [hl], by rw [hl]; omega, by rw [hl]; omega, hlt, hb, rfl, rfl, hr.symm, by simp [hr, ho, hnew], by simp only [List.all_append, hoc, hnc, Bool.and_self], h0, fun i hi => ?_, fun i j hij hj c hc => ?_⟩⟩
  · by_cases h : i < xs.length
    · simp only [if_pos h]
      rw [List.getElem_append_left h, cellsAt_append_left (by rw [hr]; omega)]
      exact hx i h
    · simp only [if_neg h]
      have hj : i - xs.length < zs.length := by omega
      have hj' : i - xs.length < new.length := by omega
      have e : cellsAt r.n (old ++ new) 0 i = [new[i - xs.length]] := by
        rw [hr, cellsAt_one (by simp; omega)]
        simp only [Nat.zero_add, Nat.mul_one]
        rw [List.getElem_append_right (by omega)]
        simp only [ho]
      rw [List.getElem_append_right (by omega), e]
      exact hz _ hj hj'
  · by_cases h2 : j < xs.length
    · have h1 : i < xs.length := by omega
      simp only [if_pos h1] at hc
      simp only [if_pos h2]
      exact hxd i j hij h2 c hc
    · simp only [if_neg h2]
      by_cases h1 : i < xs.length
      · simp only [if_pos h1] at hc
        exact hxz i _ h1 (by omega) c hc
      · simp only [if_neg h1] at hc
        exact hzd _ _ (by omega) (by omega) c hc

/-- Some elements more; they were made behind the slice. -/
theorem GrN.append {α : Type} {r : Rd α} {ty : TypeId} {n0 : Nat} {H1 H : Heap} {v y : Value} {xs zs : List α} {new : List Value} {k : Post} (g : GrN r ty n0 v xs H1) (l : H1.Le H) (hn : r.n = 1) (hy : srcCells 1 H y = some (zs.length, new)) (hz : 0 < zs.length)
    (hnew : new.length = zs.length) (hcell : new.all isCell = true) (hlen : xs.length + zs.length ≤ 16777216) (gs : Nat → List Nat)
    (he : ∀ i (h : i < zs.length) (h' : i < new.length), r.rel H (gs i) [new[i]] zs[i] ∧ (gs i).Nodup ∧ (∀ c ∈ gs i, H1.next ≤ c) ∧ RW H (gs i)) (hd : ∀ i j, i < j → j < zs.length → ∀ c ∈ gs i, c ∉ gs j)
    (hk : ∀ H' v', GrN r ty n0 v' (xs ++ zs) H' → H.next ≤ H'.next → (∀ c, c < n0 → H'.blk c = H.blk c) → k v' H') : W.append 1 ty v y H k := by
  have lowg : ∀ i (h : i < zs.length), ∀ c ∈ gs i, c < H.next := fun i h => r.low (he i h (by omega)).1
  have l0 := g.low
  have l1 := l.next
  unfold W.append
  rw [hy]
  simp only []
  rcases g.shape with ⟨rfl, rfl⟩ | ⟨b, e, kb, fs, rfl, h1, h2, h3, h4, h5, h5', h5'', h6, h6', h7, h8, h9⟩
  · unfold appendTo
    simp only []
    rw [if_neg (by omega)]
    refine ⟨by simpa using hlen, ?_⟩
    simp only [oldCells, if_true, List.nil_append, Nat.zero_add]
    have la : H.Le (H.alloc new ty 1) := ⟨by simp [Heap.alloc], fun c hc => by simp only [Heap.alloc]; rw [if_neg (by omega)]⟩
    refine hk _ _ (GrN.build (old := []) (new := new) hn (by simp [Heap.alloc]) (by simp [Heap.alloc]) (by omega) rfl hnew rfl hcell (by simp) (by simpa using hlen) (fun _ => []) gs (fun i h => by simp at h) (fun i j _ h => by simp at h)
      (fun i h h' => ?_) hd (fun i j h => by simp at h)) (by simp [Heap.alloc]) fun c hc => la.blk c (by omega)
    obtain ⟨g1, g2, g3, g4⟩ := he i h h'
    exact ⟨Rd.le _ g1 la, g2, fun c hc => ⟨by have := g3 c hc; omega, by have := lowg i h c hc; omega⟩, g4.le la (r.low g1)⟩
  · have hbl : H.blk b = some kb := l.at h4 h3
    have hold : H.getN (adr b 0) (xs.length * 1) = some kb.cells := by
      rw [hn] at h6
      simp only [Heap.getN, hbl, Option.bind_some, Nat.zero_add, List.drop_zero]
      rw [if_pos (by omega), List.take_of_length_le (by omega)]
    have hcl : kb.cells.length = xs.length := by rw [h6, hn]; omega
    unfold appendTo
    simp only []
    rw [if_neg (by omega)]
    refine ⟨hlen, ?_⟩
    simp only [oldCells, hold]
    have lowf : ∀ i (h : i < xs.length), ∀ c ∈ fs i, c < H1.next := fun i h => r.low (h8 i h).1
    have hxz : ∀ i j, i < xs.length → j < zs.length → ∀ c ∈ fs i, c ∉ gs j := fun i j hi hj c hc hcg => by
      have := lowf i hi c hc
      have := (he j hj (by omega)).2.2.1 c hcg
      omega
    split
    · have la : H.Le (H.alloc (kb.cells ++ new) ty 1) := ⟨by simp [Heap.alloc], fun c hc => by simp only [Heap.alloc]; rw [if_neg (by omega)]⟩
      refine hk _ _ (GrN.build hn (by simp [Heap.alloc]) (by simp [Heap.alloc]) (by omega) hcl hnew h6' hcell rfl hlen fs gs (fun i h => ?_) h9 (fun i h h' => ?_) hd hxz) (by simp [Heap.alloc]) fun c hc => la.blk c (by omega)
      · obtain ⟨g1, g2, g3, g4⟩ := h8 i h
        exact ⟨Rd.le _ g1 (l.trans la), g2, fun c hc => ⟨(g3 c hc).1, by have := lowf i h c hc; omega⟩, g4.le (l.trans la) (r.low g1)⟩
      · obtain ⟨g1, g2, g3, g4⟩ := he i h h'
        exact ⟨Rd.le _ g1 la, g2, fun c hc => ⟨by have := g3 c hc; omega, by have := lowg i h c hc; omega⟩, g4.le la (r.low g1)⟩
    · refine ⟨trivial, hcell, ?_, ?_⟩
      · simp only [hbl]
        exact ⟨h5, h5', by rw [h5'', hn]⟩
      · have lb : H.LeB b ((H.setBlk b none).alloc (kb.cells ++ new) ty 1) := ⟨by simp [Heap.alloc, Heap.setBlk], fun c hc hcb => by
          have hcn : ¬ c = H.next := by omega
          simp [Heap.alloc, Heap.setBlk, hcb, hcn]⟩
        refine hk _ _ (GrN.build hn (by simp [Heap.alloc, Heap.setBlk]) (by simp [Heap.alloc, Heap.setBlk]) (by omega) hcl hnew h6' hcell rfl hlen fs gs (fun i h => ?_) h9 (fun i h h' => ?_) hd hxz) lb.next fun c hc => lb.blk c (by omega) (by omega)
        · obtain ⟨g1, g2, g3, g4⟩ := h8 i h
          have ne : ∀ c ∈ fs i, c ≠ b := fun c hc => (g3 c hc).2
          have g1' := Rd.le _ g1 l
          have g4' := g4.le l (r.low g1)
          exact ⟨r.frame g1' lb.next fun c hc => lb.blk c (r.low g1' c hc) (ne c hc), g2, fun c hc => ⟨(g3 c hc).1, by have := lowf i h c hc; omega⟩, fun c hc kc hk => g4' c hc kc (by rw [← lb.blk c (r.low g1' c hc) (ne c hc)]; exact hk)⟩
        · obtain ⟨g1, g2, g3, g4⟩ := he i h h'
          have ne : ∀ c ∈ gs i, c ≠ b := fun c hc e => by have := g3 c hc; omega
          exact ⟨r.frame g1 lb.next fun c hc => lb.blk c (r.low g1 c hc) (ne c hc), g2, fun c hc => ⟨by have := g3 c hc; omega, by have := lowg i h c hc; omega⟩, fun c hc kc hk => g4 c hc kc (by rw [← lb.blk c (r.low g1 c hc) (ne c hc)]; exact hk)⟩

/-- The same for what keeps what was. -/
theorem Gr.append {α : Type} {r : Rd α} {ty : TypeId} {H0 H1 H : Heap} {v y : Value} {xs zs : List α} {new : List Value} {k : Post} (g : Gr r ty H0 v xs H1) (l : H1.Le H) (hn : r.n = 1) (hy : srcCells 1 H y = some (zs.length, new)) (hz : 0 < zs.length)
    (hnew : new.length = zs.length) (hcell : new.all isCell = true) (hlen : xs.length + zs.length ≤ 16777216) (gs : Nat → List Nat)
    (he : ∀ i (h : i < zs.length) (h' : i < new.length), r.rel H (gs i) [new[i]] zs[i] ∧ (gs i).Nodup ∧ (∀ c ∈ gs i, H1.next ≤ c) ∧ RW H (gs i)) (hd : ∀ i j, i < j → j < zs.length → ∀ c ∈ gs i, c ∉ gs j)
    (hk : ∀ H' v', Gr r ty H0 v' (xs ++ zs) H' → H.next ≤ H'.next → k v' H') : W.append 1 ty v y H k :=
  g.gr.append l hn hy hz hnew hcell hlen gs he hd fun H' v' g' hn' hb => hk H' v' ⟨⟨Nat.le_trans (g.le.trans l).next hn', fun c hc => by rw [hb c hc, (g.le.trans l).blk c hc]⟩, g'⟩ hn'

/-- One element more. -/
theorem GrN.push {α : Type} {r : Rd α} {ty : TypeId} {n0 : Nat} {H1 H2 H : Heap} {v u : Value} {x : α} {xs : List α} {k : Post} {yb e : Nat} {ty' : TypeId} {es : Nat} (g : GrN r ty n0 v xs H1) (hn : r.n = 1) (f : Fresh r H1 [u] x H2) (l : H2.Le H)
    (hy : H.blk yb = some ⟨[u], ty', es, false⟩) (hlen : xs.length < 16777216) (hk : ∀ H' v', GrN r ty n0 v' (xs ++ [x]) H' → H.next ≤ H'.next → (∀ c, c < n0 → H'.blk c = H.blk c) → k v' H') : W.append 1 ty v (.slice (some (adr yb 0)) 1 e) H k := by
  obtain ⟨bs, p1, p2, p3, p4⟩ := f.has
  have hs : srcCells 1 H (.slice (some (adr yb 0)) 1 e) = some (([x] : List α).length, [u]) := by
    simp [srcCells, Heap.getN, hy]
  refine g.append (zs := [x]) (f.le.trans l) hn hs (by simp) rfl (r.cell p1) (by simp; omega) (fun _ => bs) (fun i h h' => ?_) (fun i j h1 h2 => by simp at h2; omega) hk
  have : i = 0 := by simp at h; omega
  subst this
  exact ⟨Rd.le _ p1 l, p2, p3, p4.le l (r.low p1)⟩

/-- The same for what keeps what was. -/
theorem Gr.push {α : Type} {r : Rd α} {ty : TypeId} {H0 H1 H2 H : Heap} {v u : Value} {x : α} {xs : List α} {k : Post} {yb e : Nat} {ty' : TypeId} {es : Nat} (g : Gr r ty H0 v xs H1) (hn : r.n = 1) (f : Fresh r H1 [u] x H2) (l : H2.Le H)
    (hy : H.blk yb = some ⟨[u], ty', es, false⟩) (hlen : xs.length < 16777216) (hk : ∀ H' v', Gr r ty H0 v' (xs ++ [x]) H' → H.next ≤ H'.next → k v' H') : W.append 1 ty v (.slice (some (adr yb 0)) 1 e) H k :=
  g.gr.push hn f l hy hlen fun H' v' g' hn' hb => hk H' v' ⟨⟨Nat.le_trans (g.le.trans (f.le.trans l)).next hn', fun c hc => by rw [hb c hc, (g.le.trans (f.le.trans l)).blk c hc]⟩, g'⟩ hn'

/-- The first element of what began as an empty literal. -/
theorem GrN.push0 {α : Type} {r : Rd α} {ty : TypeId} {n0 : Nat} {H1 H2 H : Heap} {u : Value} {x : α} {k : Post} {b yb e : Nat} {kb : Blk} {ty' : TypeId} {es : Nat} (hb : H.blk b = some kb) (n0' : n0 ≤ H1.next) (hn : r.n = 1) (f : Fresh r H1 [u] x H2) (l : H2.Le H)
    (hy : H.blk yb = some ⟨[u], ty', es, false⟩) (hk : ∀ H' v', GrN r ty n0 v' [x] H' → H.Le H' → k v' H') : W.append 1 ty (.slice (some (adr b 0)) 0 0) (.slice (some (adr yb 0)) 1 e) H k := by
  obtain ⟨bs, p1, p2, p3, p4⟩ := f.has
  have n1 := f.le.next
  have n2 := l.next
  have low := r.low p1
  unfold W.append
  have hs : srcCells 1 H (.slice (some (adr yb 0)) 1 e) = some (1, [u]) := by
    simp [srcCells, Heap.getN, hy]
  rw [hs]
  simp only []
  unfold appendTo
  simp only []
  rw [if_neg (by omega)]
  refine ⟨by omega, ?_⟩
  have ho : H.getN (adr b 0) (0 * 1) = some [] := by simp [Heap.getN, hb]
  simp only [oldCells, ho, if_true, List.nil_append, Nat.zero_add]
  have la : H.Le (H.alloc [u] ty 1) := ⟨by simp [Heap.alloc], fun c hc => by simp only [Heap.alloc]; rw [if_neg (by omega)]⟩
  refine hk _ _ (GrN.build (old := []) (new := [u]) (xs := []) (zs := [x]) hn (by simp [Heap.alloc]) (by simp [Heap.alloc]) (by omega) rfl rfl rfl (r.cell p1) rfl (by omega) (fun _ => []) (fun _ => bs) (fun i h => by simp at h) (fun i j _ h => by simp at h)
    (fun i h h' => ?_) (fun i j h1 h2 => by simp at h2; omega) (fun i j h => by simp at h)) la
  have : i = 0 := by simp at h; omega
  subst this
  exact ⟨Rd.le _ p1 (l.trans la), p2, fun c hc => ⟨by have := p3 c hc; omega, by have := low c hc; omega⟩, p4.le (l.trans la) low⟩

end Go.Ab
