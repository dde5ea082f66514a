/- Slices that grow, made, written: words over things. -/
import Derived.Test.YtdbdmlfnggbdiaaZabLoc2
namespace Go.Ab

theorem flat_congr {l : List Nat} {f g : Nat → List Nat} (h : ∀ i ∈ l, f i = g i) : l.flatMap f = l.flatMap g := by
  induction l with
  | nil => rfl
  | cons x l ih => rw [List.flatMap_cons, List.flatMap_cons, h x (by simp), ih fun i hi => h i (by simp [hi])]

theorem range_flat (a b : Nat) (f g : Nat → List Nat) : (List.range (a + b)).flatMap (fun i => if i < a then f i else g (i - a)) = (List.range a).flatMap f ++ (List.range b).flatMap g := by
  rw [List.range_add, List.flatMap_append, List.flatMap_map]
  congr 1
  · refine flat_congr fun i hi => ?_
    rw [if_pos (by simpa using hi)]
  · refine flat_congr fun i hi => ?_
    rw [if_neg (by omega), Nat.add_sub_cancel_left]

theorem cellsAt_append_right {m a : Nat} {xs ys : List Value} {i : Nat} (h : xs.length = a * m) (hi : a ≤ i) : cellsAt m (xs ++ ys) 0 i = cellsAt m ys 0 (i - a) := by
  unfold cellsAt
  have e : 0 + i * m = xs.length + (0 + (i - a) * m) := by
    rw [h, Nat.zero_add, Nat.zero_add, ← Nat.add_mul]
    congr 1
    omega
  rw [e, List.drop_append, List.drop_of_length_le (by omega), List.nil_append]
  congr 2
  omega

/-- Some elements more. -/
theorem grow_appendTo {n : Nat} {H : Heap} {bs : List Nat} {α : Type} {r : Rd α} {ty : TypeId} {v : Value} {xs zs : List α} {new : List Value} {K : Post} (g : (Atom.grow (n := n) r ty v xs).P H bs)
    (hz : 0 < zs.length) (hnew : new.length = zs.length * r.n) (hcell : new.all isCell = true) (hlen : xs.length + zs.length ≤ 16777216) (gs : Nat → List Nat)
    (he : ∀ i (h : i < zs.length), r.rel H (gs i) (cellsAt r.n new 0 i) zs[i] ∧ RW H (gs i)) (hnd : ((List.range zs.length).flatMap gs).Nodup) (hd : ∀ c ∈ bs, c ∉ (List.range zs.length).flatMap gs)
    (k : ∀ H' v' bs', (Atom.grow (n := n) r ty v' (xs ++ zs)).P H' bs' → H.next ≤ H'.next → (∀ c, c < H.next → c ∉ bs → H'.blk c = H.blk c) → (∀ c ∈ bs', c ∈ bs ∨ c ∈ (List.range zs.length).flatMap gs ∨ H.next ≤ c) → K v' H') :
    appendTo r.n ty v zs.length new K H := by
  have lowg : ∀ i (h : i < zs.length), ∀ c ∈ gs i, c < H.next := fun i h => r.low (he i h).1
  have hl : (xs ++ zs).length = xs.length + zs.length := by simp
  -- what is built
  have build : ∀ (H' : Heap) (old : List Value) (fs : Nat → List Nat), H'.next = H.next + 1 → H'.blk H.next = some ⟨old ++ new, ty, r.n, false⟩ → (∀ c, c < H.next → c ∉ bs → H'.blk c = H.blk c) →
      old.length = xs.length * r.n → old.all isCell = true → ((List.range xs.length).flatMap fs).Nodup → (∀ c ∈ (List.range xs.length).flatMap fs, c ∈ bs) → RW H' ((List.range xs.length).flatMap fs) →
      (∀ i (h : i < xs.length), r.rel H' (fs i) (cellsAt r.n old 0 i) xs[i]) → (∀ i (h : i < xs.length), ∀ c ∈ fs i, c < H.next) →
      K (.slice (some (adr H.next 0)) (xs.length + zs.length) (2 * (xs.length + zs.length) + 1)) H' := by
    intro H' old fs hn hb hsame ho hoc hfn hfb hfw hfr hfl
    have hgs : ∀ i (h : i < zs.length), ∀ c ∈ gs i, H'.blk c = H.blk c := fun i h c hc => hsame c (lowg i h c hc) fun hm => hd c hm (List.mem_flatMap.2 ⟨i, by simpa using h, hc⟩)
    refine k H' _ (H.next :: (List.range (xs ++ zs).length).flatMap (fun i => if i < xs.length then fs i else gs (i - xs.length))) (.inr ⟨H.next, _, _, _, by rw [hl], by rw [hl]; omega, rfl, ?_, ?_, ⟨by omega, hb, by rw [hl]; omega, by rw [hl]; omega, ?_, ?_⟩, rfl, rfl, ?_, ?_⟩) (by omega) hsame ?_
    · rw [hl, range_flat]
      refine List.nodup_cons.2 ⟨fun hm => ?_, List.nodup_append.2 ⟨hfn, hnd, fun a ha b hb hab => hd a (hfb a ha) (hab ▸ hb)⟩⟩
      rcases List.mem_append.1 hm with hm | hm
      · obtain ⟨i, hi, hc⟩ := List.mem_flatMap.1 hm
        have := hfl i (by simpa using hi) _ hc
        omega
      · obtain ⟨i, hi, hc⟩ := List.mem_flatMap.1 hm
        have := lowg i (by simpa using hi) _ hc
        omega
    · rw [hl, range_flat]
      intro c hc kc hk
      rcases List.mem_cons.1 hc with rfl | hc
      · rw [hb] at hk; cases hk; rfl
      · rcases List.mem_append.1 hc with hc | hc
        · exact hfw c hc kc hk
        · obtain ⟨i, hi, hc⟩ := List.mem_flatMap.1 hc
          have hi : i < zs.length := by simpa using hi
          rw [hgs i hi c hc] at hk
          exact (he i hi).2 c hc kc hk
    · rw [hl]
      simp only [List.length_append, ho, hnew, Nat.add_mul]
      omega
    · intro i hi
      rw [hl] at hi
      by_cases h : i < xs.length
      · simp only [if_pos h]
        rw [List.getElem_append_left h, cellsAt_append_left (by
          rw [ho]
          have : (i + 1) * r.n ≤ xs.length * r.n := Nat.mul_le_mul_right _ h
          rw [Nat.succ_mul] at this
          omega)]
        exact hfr i h
      · simp only [if_neg h]
        rw [List.getElem_append_right (by omega), cellsAt_append_right ho (by omega)]
        exact r.frame (he _ (by omega)).1 (by omega) (hgs _ (by omega))
    · rw [hl]
      simp only [List.length_append, ho, hnew, Nat.add_mul]
    · simp only [List.all_append, hoc, hcell, Bool.and_self]
    · rw [hl, range_flat]
      intro c hc
      rcases List.mem_cons.1 hc with rfl | hc
      · exact .inr (.inr (Nat.le_refl _))
      · rcases List.mem_append.1 hc with hc | hc
        · exact .inl (hfb c hc)
        · exact .inr (.inl hc)
  rcases g with ⟨rfl, rfl, rfl⟩ | ⟨b, e, kb, fs, rfl, he2, rfl, hbn, hrw, s, hty, hesz, hlenk, hck⟩
  · unfold appendTo
    simp only []
    rw [if_neg (by omega)]
    refine ⟨by simpa using hlen, ?_⟩
    simp only [oldCells, if_true, List.nil_append, Nat.zero_add]
    have := build (H.alloc new ty r.n) [] (fun _ => []) (by simp [Heap.alloc]) (by simp [Heap.alloc]) (fun c hc _ => by simp only [Heap.alloc]; rw [if_neg (by omega)]) (by simp) rfl (by simp) (by simp) (by intro c hc; simp at hc)
      (fun i h => by simp at h) (fun i h => by simp at h)
    simpa using this
  · have hold : H.getN (adr b 0) (xs.length * r.n) = some kb.cells := by
      simp only [Heap.getN, s.blk, Option.bind_some, Nat.zero_add, List.drop_zero]
      rw [if_pos (by omega), List.take_of_length_le (by omega)]
    have hlow : ∀ i (h : i < xs.length), ∀ c ∈ fs i, c < H.next := fun i h => r.low (s.each i h)
    have hbf := (List.nodup_cons.1 hbn).1
    have hmem : ∀ i (h : i < xs.length), ∀ c ∈ fs i, c ∈ (List.range xs.length).flatMap fs := fun i h c hc => List.mem_flatMap.2 ⟨i, by simpa using h, hc⟩
    have hro : kb.ro = false := hrw b (by simp) kb s.blk
    have hlt := s.lt
    unfold appendTo
    simp only []
    rw [if_neg (by omega)]
    refine ⟨hlen, ?_⟩
    simp only [oldCells, hold]
    split
    · have la : H.Le (H.alloc (kb.cells ++ new) ty r.n) := ⟨by simp [Heap.alloc], fun c hc => by simp only [Heap.alloc]; rw [if_neg (by omega)]⟩
      refine build (H.alloc (kb.cells ++ new) ty r.n) kb.cells fs (by simp [Heap.alloc]) (by simp [Heap.alloc]) (fun c hc _ => la.blk c hc) hlenk hck (List.nodup_cons.1 hbn).2 (fun c hc => List.mem_cons_of_mem _ hc)
        (fun c hc kc hk => ?_) (fun i h => Rd.le _ (s.each i h) la) hlow
      obtain ⟨i, hi, hc'⟩ := List.mem_flatMap.1 hc
      rw [la.blk c (hlow i (by simpa using hi) c hc')] at hk
      exact hrw c (List.mem_cons_of_mem _ hc) kc hk
    · refine ⟨trivial, hcell, ?_, ?_⟩
      · simp only [s.blk]
        exact ⟨hro, hty, hesz⟩
      · have lb : ∀ c, c < H.next → c ≠ b → ((H.setBlk b none).alloc (kb.cells ++ new) ty r.n).blk c = H.blk c := fun c hc hcb => by
          have hcn : ¬ c = H.next := by omega
          simp [Heap.alloc, Heap.setBlk, hcb, hcn]
        have ne : ∀ i (h : i < xs.length), ∀ c ∈ fs i, c ≠ b := fun i h c hc e => hbf (e ▸ hmem i h c hc)
        refine build ((H.setBlk b none).alloc (kb.cells ++ new) ty r.n) kb.cells fs (by simp [Heap.alloc, Heap.setBlk]) (by simp [Heap.alloc, Heap.setBlk]) (fun c hc hcb => lb c hc fun e => hcb (by simp [e])) hlenk hck (List.nodup_cons.1 hbn).2
          (fun c hc => List.mem_cons_of_mem _ hc) (fun c hc kc hk => ?_) (fun i h => r.frame (s.each i h) (by simp [Heap.alloc, Heap.setBlk]) fun c hc => lb c (hlow i h c hc) (ne i h c hc)) hlow
        obtain ⟨i, hi, hc'⟩ := List.mem_flatMap.1 hc
        have hi : i < xs.length := by simpa using hi
        rw [lb c (hlow i hi c hc') (ne i hi c hc')] at hk
        exact hrw c (List.mem_cons_of_mem _ hc) kc hk

theorem grow_append {n : Nat} {H : Heap} {bs : List Nat} {α : Type} {r : Rd α} {ty : TypeId} {v y : Value} {xs zs : List α} {new : List Value} {K : Post} (g : (Atom.grow (n := n) r ty v xs).P H bs)
    (hs : srcCells r.n H y = some (zs.length, new)) (hz : 0 < zs.length) (hnew : new.length = zs.length * r.n) (hcell : new.all isCell = true) (hlen : xs.length + zs.length ≤ 16777216) (gs : Nat → List Nat)
    (he : ∀ i (h : i < zs.length), r.rel H (gs i) (cellsAt r.n new 0 i) zs[i] ∧ RW H (gs i)) (hnd : ((List.range zs.length).flatMap gs).Nodup) (hd : ∀ c ∈ bs, c ∉ (List.range zs.length).flatMap gs)
    (k : ∀ H' v' bs', (Atom.grow (n := n) r ty v' (xs ++ zs)).P H' bs' → H.next ≤ H'.next → (∀ c, c < H.next → c ∉ bs → H'.blk c = H.blk c) → (∀ c ∈ bs', c ∈ bs ∨ c ∈ (List.range zs.length).flatMap gs ∨ H.next ≤ c) → K v' H') :
    W.append r.n ty v y H K := by
  unfold W.append
  rw [hs]
  exact grow_appendTo g hz hnew hcell hlen gs he hnd hd k

/-! ### Readings without blocks -/

class Plain {α : Type} (r : Rd α) : Prop where
  no : ∀ {H bs cs x}, r.rel H bs cs x → bs = [] ∧ ∀ H', r.rel H' [] cs x
instance : Plain Rd.int := ⟨fun ⟨h1, h2, h3⟩ => ⟨h1, fun _ => ⟨rfl, h2, h3⟩⟩⟩
instance : Plain Rd.bool := ⟨fun ⟨h1, h2⟩ => ⟨h1, fun _ => ⟨rfl, h2⟩⟩⟩
instance {α β : Type} {r : Rd α} {s : Rd β} [p : Plain r] [q : Plain s] : Plain (r.pair s) := ⟨fun ⟨b1, b2, c1, c2, h1, h2, h3, h4⟩ => by
  obtain ⟨rfl, g1⟩ := p.no h3
  obtain ⟨rfl, g2⟩ := q.no h4
  exact ⟨h1, fun H' => ⟨[], [], c1, c2, rfl, h2, g1 H', g2 H'⟩⟩⟩

theorem cells_all {α : Type} {r : Rd α} {H : Heap} {new : List Value} {zs : List α} {gs : Nat → List Nat} (hnew : new.length = zs.length * r.n) (he : ∀ i (h : i < zs.length), r.rel H (gs i) (cellsAt r.n new 0 i) zs[i]) : new.all isCell = true := by
  rw [List.all_eq_true]
  intro c hc
  obtain ⟨j, hj, rfl⟩ := List.mem_iff_getElem.1 hc
  have hpos : 0 < r.n := by
    rcases Nat.eq_zero_or_pos r.n with h | h
    · rw [h, Nat.mul_zero] at hnew; omega
    · exact h
  have hi : j / r.n < zs.length := Nat.div_lt_of_lt_mul (by rw [Nat.mul_comm]; omega)
  have := r.cell (he _ hi)
  rw [List.all_eq_true] at this
  refine this _ ?_
  have e : (cellsAt r.n new 0 (j / r.n))[j % r.n]? = some new[j] := by
    unfold cellsAt
    rw [List.getElem?_take, if_pos (Nat.mod_lt _ hpos), List.getElem?_drop, Nat.zero_add]
    have : j / r.n * r.n + j % r.n = j := by rw [Nat.mul_comm]; exact Nat.div_add_mod j r.n
    rw [this, List.getElem?_eq_getElem hj]
  exact List.mem_of_getElem? e

/-- The cells of a slice. -/
theorem src_has {α : Type} {r : Rd α} {H : Heap} {bs : List Nat} {y : Value} {zs : List α} (h : (Rd.slice r).rel H bs [y] zs) (hz : 0 < zs.length) : ∃ new fs, srcCells r.n H y = some (zs.length, new) ∧ new.length = zs.length * r.n ∧
    (∀ i (h : i < zs.length), r.rel H (fs i) (cellsAt r.n new 0 i) zs[i]) ∧ ∃ b, bs = b :: (List.range zs.length).flatMap fs := by
  obtain ⟨b, o, e, kb, fs, q1, q2, s⟩ := Rd.slice_at h hz
  have hroom := s.room
  refine ⟨(kb.cells.drop o).take (zs.length * r.n), fs, ?_, by simp; omega, fun i hi => ?_, b, q2⟩
  · rw [q1]
    simp only [srcCells, Heap.getN, s.blk, Option.bind_some]
    rw [if_neg (by omega), if_pos (by omega)]
    rfl
  · have e : cellsAt r.n ((kb.cells.drop o).take (zs.length * r.n)) 0 i = cellsAt r.n kb.cells o i := by
      unfold cellsAt
      have : (i + 1) * r.n ≤ zs.length * r.n := Nat.mul_le_mul_right _ hi
      rw [Nat.succ_mul] at this
      rw [Nat.zero_add, List.drop_take, List.drop_drop, List.take_take, Nat.min_eq_left (by omega)]
    rw [e]
    exact s.each i hi

theorem src_nil {α : Type} {r : Rd α} {H : Heap} {bs : List Nat} {y : Value} {sz : Nat} (h : (Rd.slice r).rel H bs [y] []) : srcCells sz H y = some (0, []) := by
  obtain ⟨a, e, g⟩ := Rd.slice_val h
  simp only [List.cons.injEq, and_true] at g
  rw [g]
  cases a <;> simp [srcCells]

theorem flat_nil {m : Nat} {f : Nat → List Nat} (h : ∀ i, i < m → f i = []) : (List.range m).flatMap f = [] := by
  rw [List.flatMap_eq_nil_iff]
  intro i hi
  exact h i (by simpa using hi)

section
variable {H0 H H' : Heap} {L L' : List (Atom H0.next)} {K : Post}

/-- Elements of a slice are appended. -/
theorem Wl.appendH {α : Type} {r : Rd α} [p : Plain r] {ty : TypeId} {v y : Value} {xs zs : List α} {i m : Nat} (hm : r.n = m) (h : Loc H0 L H) (hi : L[i]? = some (.grow r ty v xs)) (hy : Has (Rd.slice r) H [y] zs)
    (hlen : xs.length + zs.length ≤ 16777216) (k : ∀ H' v', Loc H0 (L.set i (.grow r ty v' (xs ++ zs))) H' → K v' H') : W.append m ty v y H K := by
  subst hm
  obtain ⟨ys, hy⟩ := hy
  obtain ⟨bs, g, _, u⟩ := h.upd hi
  cases zs with
  | nil =>
    have e : W.append r.n ty v y H K = appendTo r.n ty v 0 [] K H := by
      unfold W.append
      rw [src_nil hy]
    rw [e]
    have hk := k H v
    rw [List.append_nil] at hk
    have hL : L.set i (.grow r ty v xs) = L := by
      have := (List.getElem?_eq_some_iff.1 hi)
      obtain ⟨h1, h2⟩ := this
      rw [← h2]
      simp
    rw [hL] at hk
    rcases g with ⟨rfl, rfl, rfl⟩ | ⟨b, e, kb, fs, rfl, he2, _⟩
    · unfold appendTo
      simp only [Nat.add_zero, Nat.zero_div, Nat.le_refl, if_true]
      exact hk h
    · unfold appendTo
      simp only [Nat.add_zero]
      rw [if_pos (by omega)]
      simp only [if_true]
      exact hk h
  | cons z zs =>
    obtain ⟨new, fs, h1, h2, h3, _⟩ := src_has hy (by simp)
    have hnil : ∀ i, i < (z :: zs).length → fs i = [] := fun i hi => (p.no (h3 i hi)).1
    have hf := flat_nil hnil
    refine grow_append g h1 (by simp) h2 (cells_all h2 h3) hlen fs (fun i hi => ⟨h3 i hi, fun c hc => by rw [hnil i hi] at hc; cases hc⟩) (by rw [hf]; exact List.nodup_nil) (fun c _ => by rw [hf]; simp) fun H' v' bs' p' hn hsame hbs => k H' v' (u H' _ bs' hn hsame p' fun c hc => ?_)
    rcases hbs c hc with h | h | h
    · exact .inl h
    · rw [hf] at h; cases h
    · exact .inr h

/-- One element is appended. -/
theorem Wl.pushP {α : Type} {r : Rd α} [p : Plain r] {ty ty' : TypeId} {v u : Value} {zc cs : List Value} {x : α} {xs : List α} {i m : Nat} (hm : r.n = m) (hz : zc.length = m) (hu : cellsA u = some cs) (hx : ∀ H, r.rel H [] cs x) (h : Loc H0 L H) [c : AtV L [v] (.grow r ty v xs) i]
    (hlen : xs.length < 16777216) (k : ∀ H' v', Loc H0 (L.set i (.grow r ty v' (xs ++ [x]))) H' → K v' H') : W.lit 1 zc ty' [(0, m, u)] H fun y H => W.append m ty v y H K := by
  subst hm
  have hl : cs.length = r.n := r.len (hx H)
  refine Wi.lit (cells := cs) ?_ fun H1 l1 n1 k1 => ?_
  · have e : reps 1 zc = zc := by simp [reps]
    simp only [fillA, hu, e, hl, hz, Nat.zero_add, Nat.le_refl, and_self, if_true, List.take_zero, List.nil_append]
    rw [List.drop_of_length_le (by omega), List.append_nil]
  · refine Wl.appendH (zs := [x]) rfl (h.to l1) c.get ⟨[H.next], .inr ⟨H.next, 0, 2, _, fun _ => [], rfl, rfl, ⟨by omega, k1, by simp, by simp, by simp [hl], fun i hi => ?_⟩⟩⟩ (by simp; omega) fun H' v' h' => k H' v' h'
    have : i = 0 := by simp at hi; omega
    subst this
    have e : cellsAt r.n cs 0 0 = cs := by unfold cellsAt; simp [← hl]
    rw [e]
    exact hx H1

end
end Go.Ab
