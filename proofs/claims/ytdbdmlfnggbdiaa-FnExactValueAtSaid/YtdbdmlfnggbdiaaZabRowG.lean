/- Rows that grow. -/
import Derived.Test.YtdbdmlfnggbdiaaZabMore
namespace Go.Ab

/-! ### Rows that grow -/

/-- A slice that may grow, as a reading. -/
def Rd.gslice {α : Type} (r : Rd α) (ty : TypeId) : Rd (List α) where
  n := 1
  rel := fun H bs cs xs => ∃ v, cs = [v] ∧ (Atom.grow (n := 0) r ty v xs).P H bs
  len := fun ⟨v, h, _⟩ => by rw [h]; rfl
  cell := fun ⟨v, h, p⟩ => by
    rw [h]
    rcases p with ⟨rfl, _⟩ | ⟨b, e, kb, fs, rfl, _⟩ <;> rfl
  low := fun ⟨_, _, p⟩ => (Atom.grow (n := 0) r ty _ _).low p
  frame := fun ⟨v, h, p⟩ hn hb => ⟨v, h, (Atom.grow (n := 0) r ty v _).frame p (Nat.zero_le _) hn fun b hm => hb b (hm.resolve_left (by omega))⟩

theorem grow_any {n m : Nat} {α : Type} {r : Rd α} {ty : TypeId} {v : Value} {xs : List α} {H : Heap} {bs : List Nat} (h : (Atom.grow (n := n) r ty v xs).P H bs) : (Atom.grow (n := m) r ty v xs).P H bs := h

theorem gslice_slice {α : Type} {r : Rd α} {ty : TypeId} {H : Heap} {bs : List Nat} {cs : List Value} {xs : List α} (h : (Rd.gslice r ty).rel H bs cs xs) : (Rd.slice r).rel H bs cs xs := by
  obtain ⟨v, rfl, p⟩ := h
  exact (grow_data p).1

theorem SlAt.imp {α : Type} {r s : Rd α} (hn : r.n = s.n) (h : ∀ {H bs cs x}, r.rel H bs cs x → s.rel H bs cs x) {H : Heap} {b o e : Nat} {kb : Blk} {fs : Nat → List Nat} {xs : List α} (g : SlAt r H b o e kb fs xs) : SlAt s H b o e kb fs xs :=
  ⟨g.lt, g.blk, g.cap, g.small, by rw [← hn]; exact g.room, fun i hi => by rw [← hn]; exact h (g.each i hi)⟩

section
variable {H0 H H' H1 : Heap} {L L' : List (Atom H0.next)} {K : Post}

/-- Rows that could grow, as rows. -/
theorem Loc.ungrow (h : Loc H0 L H) {α : Type} {r : Rd α} {ty : TypeId} {v : Value} {us : List Value} {xs : List (List α)} {i : Nat} (hi : L[i]? = some (.rows (Rd.gslice r ty) v us xs)) [m : SetI L i (.data (Rd.slice (Rd.slice r)) [v] xs) L'] : Loc H0 L' H := by
  rw [m.eq]
  refine h.as hi fun bs p => ⟨bs, ⟨?_, p.2.1, p.2.2.1⟩, fun c hc => hc⟩
  rcases p.1 with h | ⟨b, o, e, kb, fs, h1, h2, s⟩
  · exact .inl h
  · exact .inr ⟨b, o, e, kb, fs, h1, h2, SlAt.imp (r := Rd.gslice r ty) (s := Rd.slice r) rfl (fun h => gslice_slice h) s⟩

/-- One element more to one of the rows. -/
theorem Wl.rowPush {α : Type} {r : Rd α} [Plain r] {ty ty' : TypeId} {v x : Value} {zc cs : List Value} {us : List Value} {xs : List (List α)} {y : α} {a j m : Nat} {κ : IntKind} (hm : r.n = m) (hz : zc.length = m) (hx : cellsA x = some cs) (hy : ∀ H, r.rel H [] cs y)
    (h : Loc H0 L H) [c : AtV L [v] (.rows (Rd.gslice r ty) v us xs) j] (ha : a < xs.length) {L2 : List Value → List (Atom H0.next)} [s : ∀ us', SetI L j (.rows (Rd.gslice r ty) v us' (xs.set a (xs[a] ++ [y]))) (L2 us')] (hlen : xs[a].length < 16777216)
    (k : ∀ H' us', Loc H0 (L2 us') H' → K undef H') :
    W.indexAddr 1 v (.int κ a) H fun p H => W.get p H fun u H => W.lit 1 zc ty' [(0, m, x)] H fun w H => W.append m ty u w H fun u' H => W.indexAddr 1 v (.int κ a) H fun p H => W.put p u' H K := by
  subst hm
  have hl : cs.length = r.n := r.len (hy H)
  obtain ⟨bs, ⟨hs1, hnd, hrw, hul, hheads⟩, hge, up⟩ := h.upd c.get
  obtain ⟨b, o, e, kb, fs, q1, q2, sl⟩ := Rd.slice_at hs1 ha
  obtain ⟨u, hcell, v', hv', gp⟩ := sl.one rfl ha
  simp only [List.cons.injEq, and_true] at hv'
  subst hv' q1 q2
  have hbn := List.nodup_cons.1 hnd
  have hmem : ∀ j, j < xs.length → ∀ c ∈ fs j, c ∈ b :: (List.range xs.length).flatMap fs := fun j hj c hc => List.mem_cons_of_mem _ (List.mem_flatMap.2 ⟨j, by simpa using hj, hc⟩)
  have hnb : ∀ j, j < xs.length → b ∉ fs j := fun j hj hc => hbn.1 (List.mem_flatMap.2 ⟨j, by simpa using hj, hc⟩)
  have low : ∀ j (hj : j < xs.length), ∀ c ∈ fs j, c < H.next := fun j hj => (Rd.gslice r ty).low (sl.each j hj)
  have hlt := sl.lt
  have hin := sl.in ha
  simp only [Rd.gslice] at hin
  refine Wi.index ha (Wi.get sl.blk hcell ?_)
  refine Wi.lit (cells := cs) ?_ fun H1 l1 n1 k1 => ?_
  · have e : reps 1 zc = zc := by simp [reps]
    simp only [fillA, hx, e, hl, hz, Nat.zero_add, Nat.le_refl, and_self, if_true, List.take_zero, List.nil_append]
    rw [List.drop_of_length_le (by omega), List.append_nil]
  have gp1 : (Atom.grow (n := 0) r ty u xs[a]).P H1 (fs a) := (Atom.grow (n := 0) r ty u xs[a]).frame gp (Nat.zero_le _) l1.next fun c hc => l1.blk c (low a ha c (hc.resolve_left (by omega)))
  have hs : srcCells r.n H1 (.slice (some (Go.Ab.adr H.next 0)) 1 (2 * 1)) = some (([y] : List α).length, cs) := by
    simp only [srcCells, Heap.getN, k1, Option.bind_some]
    rw [if_neg (by omega), if_pos (by simp [hl])]
    simp [List.take_of_length_le (Nat.le_of_eq hl)]
  refine grow_append (zs := [y]) gp1 hs (by simp) (by simp [hl]) (r.cell (hy H)) (by simp; omega) (fun _ => []) (fun i hi => ?_) (by simp) (by simp) fun H2 v2 bs2 p2 hn2 hsame2 hbs2 => ?_
  · have : i = 0 := by simp at hi; omega
    subst this
    refine ⟨?_, fun c hc => by cases hc⟩
    have e : cellsAt r.n cs 0 0 = cs := by unfold cellsAt; simp [← hl]
    rw [e]
    exact hy H1
  have n1' := l1.next
  have hb2 : H2.blk b = some kb := by rw [hsame2 b (by omega) (hnb a ha), l1.blk b hlt]; exact sl.blk
  have hro : kb.ro = false := hrw b (by simp) kb sl.blk
  have g2 := grow_data p2
  have hbs2' : ∀ c ∈ bs2, c ∈ fs a ∨ H1.next ≤ c := fun c hc => by
    rcases hbs2 c hc with h | h | h
    · exact .inl h
    · simp at h
    · exact .inr h
  have hbb2 : b ∉ bs2 := fun hm => by
    rcases hbs2' b hm with h | h
    · exact hnb a ha h
    · omega
  refine Wi.index ha (Wi.put hb2 (by have := (Rd.slice r).cell g2.1; simpa using this) hro (by omega) fun H3 w => k H3 (us.set a v2) ?_)
  rw [(s (us.set a v2)).eq]
  have n3 : H3.next = H2.next := w.next
  -- all blocks but b and those of the row are as they were
  have same : ∀ c, c < H.next → c ≠ b → c ∉ fs a → H3.blk c = H.blk c := fun c hc h1 h2 => by rw [w.off c h1, hsame2 c (by omega) h2, l1.blk c hc]
  have hdis : ∀ j, j < xs.length → j ≠ a → ∀ c ∈ fs j, c ∉ fs a := fun j hj hja c hc => (flat_nodup hbn.2 hj ha).2 hja c hc
  have same2 : ∀ c ∈ bs2, H3.blk c = H2.blk c := fun c hc => w.off c fun e => hbb2 (e ▸ hc)
  have hlen' : (xs.set a (xs[a] ++ [y])).length = xs.length := List.length_set
  refine up H3 _ (b :: (List.range xs.length).flatMap fun j => if j = a then bs2 else fs j) (by omega) (fun c hc hcb => same c hc (fun e => hcb (by simp [e])) fun h => hcb (hmem a ha c h)) ⟨?_, ?_, ?_, ?_, ?_⟩ ?_
  · refine .inr ⟨b, o, e, _, fun j => if j = a then bs2 else fs j, by rw [hlen'], by rw [hlen'], ⟨by omega, w.here, by rw [hlen']; exact sl.cap, by rw [hlen']; exact sl.small, ?_, fun j hj => ?_⟩⟩
    · rw [hlen']
      have := sl.room
      simpa [Rd.gslice] using this
    · have hj' : j < xs.length := by rw [hlen'] at hj; exact hj
      have hinj := sl.in hj'
      simp only [Rd.gslice] at hinj
      have ec : cellsAt 1 (kb.cells.set (o + a * 1) v2) o j = if j = a then [v2] else cellsAt 1 kb.cells o j := by
        rw [cellsAt_one (by simp; omega)]
        by_cases hja : j = a
        · subst hja; simp
        · rw [if_neg hja, cellsAt_one (by omega), List.getElem_set_ne (by omega)]
      show (Rd.gslice r ty).rel H3 _ (cellsAt 1 _ o j) _
      rw [ec]
      by_cases hja : j = a
      · subst hja
        simp only [if_true, List.getElem_set_self]
        exact ⟨v2, rfl, (Atom.grow (n := 0) r ty v2 _).frame p2 (Nat.zero_le _) (by omega) fun c hc => same2 c (hc.resolve_left (by omega))⟩
      · simp only [if_neg hja]
        rw [List.getElem_set_ne (fun e => hja e.symm)]
        exact (Rd.gslice r ty).frame (sl.each j hj') (by omega) fun c hc => same c (low j hj' c hc) (fun e => hnb j hj' (e ▸ hc)) (hdis j hj' hja c hc)
  · refine List.nodup_cons.2 ⟨fun hm => ?_, List.pairwise_flatMap.2 ⟨fun j hj => ?_, ?_⟩⟩
    · obtain ⟨j, hj, hc⟩ := List.mem_flatMap.1 hm
      split at hc
      · exact hbb2 hc
      · exact hnb j (by simpa using hj) hc
    · split
      · exact g2.2.1
      · exact (flat_nodup hbn.2 (by simpa using hj) ha).1
    · refine List.pairwise_iff_getElem.2 fun i j hi hj hij c hc d hd hcd => ?_
      simp only [List.length_range] at hi hj
      simp only [List.getElem_range] at hc hd
      subst hcd
      have far : ∀ i, i < xs.length → i ≠ a → c ∈ fs i → c ∉ bs2 := fun i hi hia hc hm => by
        rcases hbs2' c hm with h | h
        · exact hdis i hi hia c hc h
        · have := low i hi c hc; omega
      by_cases hia : i = a
      · rw [if_pos hia] at hc
        rw [if_neg (by omega)] at hd
        exact far j hj (by omega) hd hc
      · rw [if_neg hia] at hc
        by_cases hja : j = a
        · rw [if_pos hja] at hd
          exact far i hi hia hc hd
        · rw [if_neg hja] at hd
          exact (flat_nodup hbn.2 hi hj).2 (by omega) c hc hd
  · intro c hc kc hk
    rcases List.mem_cons.1 hc with rfl | hc
    · rw [w.here] at hk; cases hk; exact hro
    · obtain ⟨j, hj, hc⟩ := List.mem_flatMap.1 hc
      have hj : j < xs.length := by simpa using hj
      split at hc
      · rw [same2 c hc] at hk
        exact g2.2.2 c hc kc hk
      · rename_i hja
        rw [same c (low j hj c hc) (fun e => hnb j hj (e ▸ hc)) (hdis j hj hja c hc)] at hk
        exact hrw c (hmem j hj c hc) kc hk
  · rw [List.length_set, hlen']; exact hul
  · intro i hi
    rw [hlen'] at hi
    have h0 := hheads i hi
    simp only [headAt, sl.blk, Option.bind_some] at h0
    simp only [headAt, w.here, Option.bind_some, Nat.mul_one]
    by_cases hia : i = a
    · subst hia
      rw [List.getElem?_set_self (by omega), List.getElem?_set_self (by omega)]
    · rw [List.getElem?_set_ne (by omega), List.getElem?_set_ne (fun e => hia e.symm)]
      exact h0
  · intro c hc
    rcases List.mem_cons.1 hc with rfl | hc
    · exact .inl (by simp)
    · obtain ⟨j, hj, hc⟩ := List.mem_flatMap.1 hc
      have hj : j < xs.length := by simpa using hj
      split at hc
      · rcases hbs2' c hc with h | h
        · exact .inl (hmem a ha c h)
        · exact .inr (by omega)
      · exact .inl (hmem j hj c hc)

end

end Go.Ab
