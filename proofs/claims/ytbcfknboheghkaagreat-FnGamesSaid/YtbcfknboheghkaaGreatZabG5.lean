/- Reading slices. -/
import Derived.Test.YtbcfknboheghkaaGreatZabG4
import Derived.Test.YtbcfknboheghkaaGreatZabG3
namespace Go.Ab

theorem Wi.indexE {b o n e sz i : Nat} {κ : IntKind} {v : Value} {H : Heap} {k : Post} (hv : v = .slice (some (adr b o)) n e) (hi : i < n) (h : k (pt b (o + i * sz)) H) : W.indexAddr sz v (.int κ (i : Int)) H k := by
  rw [hv]
  exact Wi.index hi h

end Go.Ab
/-! More words over things: nil, one fresh element appended, zero results. -/
namespace Go.Ab

section
variable {H0 H H' H1 : Heap} {L L' : List (Atom H0.next)} {K : Post}

theorem Has.one {α : Type} {r : Rd α} {v : Value} {xs : List α} (h : Has (Rd.slice r) H [v] xs) : cellsA v = some [v] := by
  obtain ⟨bs, h⟩ := h
  obtain ⟨a, e, g⟩ := Rd.slice_val h
  simp only [List.cons.injEq, and_true] at g
  rw [g]
  rfl

theorem Has.cell1 {α : Type} {r : Rd α} {v : Value} {xs : List α} (h : Has (Rd.slice r) H [v] xs) : isCell v = true := by
  have := h.cell
  simpa using this

theorem Has.small {α : Type} {r : Rd α} {v : Value} {xs : List α} (h : Has (Rd.slice r) H [v] xs) : xs.length < 9223372036854775808 := let ⟨_, h⟩ := h; Rd.slice_small h

theorem Has.i64 {v : Value} {xs : List Int} (h : Has (Rd.slice Rd.int) H [v] xs) : ∀ x ∈ xs, I64 x := fun x hx => by
  obtain ⟨i, hi, rfl⟩ := List.mem_iff_getElem.1 hx
  obtain ⟨bs, h⟩ := h
  obtain ⟨b, o, e, kb, fs, q1, _, s⟩ := Rd.slice_at h hi
  exact (s.each i hi).2.2

/-- Is it nil? -/
theorem Wl.isNilH {α : Type} {r : Rd α} {v : Value} {xs : List α} (h : Has (Rd.slice r) H [v] xs) (k1 : xs = [] → K (.bool true) H) (k2 : K (.bool false) H) : W.eqNilR .eql v (.slice none 0 0) H K := by
  obtain ⟨bs, h⟩ := h
  rcases h with ⟨h0, _, h | h | ⟨a, h⟩⟩ | ⟨b, o, e, kb, fs, _, h, _⟩
  · simp only [List.cons.injEq, and_true] at h; subst h; exact k1 h0
  · simp only [List.cons.injEq, and_true] at h; subst h; exact k2
  · simp only [List.cons.injEq, and_true] at h; subst h; exact k2
  · simp only [List.cons.injEq, and_true] at h; subst h; exact k2

theorem Loc.addG {α : Type} {r : Rd α} {ty : TypeId} {v : Value} {xs : List α} (h : Loc H0 L H) (f : FreshG r ty H v xs H') : Loc H0 (.grow r ty v xs :: L) H' := h.mkG f

/-- One element that was just made is appended. -/
theorem Wl.pushF {α : Type} {r : Rd α} (hr : r.n = 1) {ty ty' : TypeId} {v u zv : Value} {x : α} {xs : List α} {i : Nat} [c : AtV L [v] (.grow r ty v xs) i] {L2 : Value → List (Atom H0.next)} [s : ∀ v', SetI L i (.grow r ty v' (xs ++ [x])) (L2 v')]
    (h : Loc H0 L H) (f : Fresh r H [u] x H1) (hcu : cellsA u = some [u]) (hlen : xs.length < 16777216) (k : ∀ H' v', Loc H0 (L2 v') H' → K v' H') : W.lit 1 [zv] ty' [(0, 1, u)] H1 fun y H => W.append 1 ty v y H K := by
  have c' : AtV (Atom.data r [u] x :: L) [v] (.grow r ty v xs) (i + 1) := ⟨by simpa using c.get⟩
  have d' : AtV (Atom.data r [u] x :: L) [u] (.data r [u] x) 0 := ⟨rfl⟩
  have s' : ∀ v', SetI (Atom.data r [u] x :: L) (i + 1) (.grow r ty v' (xs ++ [x])) (Atom.data r [u] x :: L2 v') := fun v' => ⟨by rw [(s v').eq]; rfl⟩
  have s3 : ∀ v', SetI (Atom.data r [u] x :: L2 v') 0 .emp (.emp :: L2 v') := fun v' => ⟨rfl⟩
  exact Wl.pushO (L2 := fun v' => Atom.data r [u] x :: L2 v') (L3 := fun v' => .emp :: L2 v') hr (h.add f) (by omega) hcu hlen fun H' v' h' => k H' v' h'.tl

theorem fresh_nil {α : Type} {r : Rd α} (l : H0.Le H) : Fresh (Rd.slice r) H0 [.slice none 0 0] [] H := ⟨l, [], .inl ⟨rfl, rfl, .inl rfl⟩, List.nodup_nil, (fun c hc => by cases hc), (fun c hc => by cases hc)⟩

theorem fresh_nil2 {α β : Type} {r : Rd α} {s : Rd β} (l : H0.Le H) : Fresh ((Rd.slice r).pair (Rd.slice s)) H0 [.slice none 0 0, .slice none 0 0] ([], []) H := (fresh_nil (r := r) l).pair (fresh_nil (r := s) (.refl _))

/-- Two things of one struct, as what was made. -/
theorem Loc.ret2 (h : Loc H0 L H) {α β : Type} {r : Rd α} {s : Rd β} {c1 c2 : List Value} {x : α} {y : β} {i j : Nat} (hi : L[i]? = some (.data r c1 x)) (hj : L[j]? = some (.data s c2 y)) (hij : i ≠ j) : Fresh (r.pair s) H0 (c1 ++ c2) (x, y) H := by
  refine (h.pair hi hj hij).ret (i := i) ?_
  rw [List.getElem?_set_ne (fun e => hij e.symm), List.getElem?_set_self (List.getElem?_eq_some_iff.1 hi).1]

end
/-! ### Lists changed in place, step by step -/

def mapTo {α : Type} (f : Nat → α → α) (xs : List α) (i : Nat) : List α := ((xs.take i).mapIdx f) ++ xs.drop i

section
variable {H0 H H' H1 : Heap} {L L' : List (Atom H0.next)} {K : Post}

/-- A slice that has grown is appended as one element. -/
theorem Wl.pushG {α : Type} {t : Rd α} {ty ty2 ty' : TypeId} {v u zv : Value} {x : List α} {xs : List (List α)} {i : Nat} [c : AtV L [v] (.grow (Rd.slice t) ty v xs) i] {L2 : Value → List (Atom H0.next)} [s : ∀ v', SetI L i (.grow (Rd.slice t) ty v' (xs ++ [x])) (L2 v')]
    (h : Loc H0 (.grow t ty2 u x :: L) H) (hlen : xs.length < 16777216) (k : ∀ H' v', Loc H0 (L2 v') H' → K v' H') : W.lit 1 [zv] ty' [(0, 1, u)] H fun y H => W.append 1 ty v y H K := by
  have h1 := h.asData (i := 0) rfl
  have hcu : cellsA u = some [u] := Has.one (h1.rd (cs := [u]))
  have c' : AtV (Atom.data (Rd.slice t) [u] x :: L) [v] (.grow (Rd.slice t) ty v xs) (i + 1) := ⟨by simpa using c.get⟩
  have d' : AtV (Atom.data (Rd.slice t) [u] x :: L) [u] (.data (Rd.slice t) [u] x) 0 := ⟨rfl⟩
  have s' : ∀ v', SetI (Atom.data (Rd.slice t) [u] x :: L) (i + 1) (.grow (Rd.slice t) ty v' (xs ++ [x])) (Atom.data (Rd.slice t) [u] x :: L2 v') := fun v' => ⟨by rw [(s v').eq]; rfl⟩
  have s3 : ∀ v', SetI (Atom.data (Rd.slice t) [u] x :: L2 v') 0 .emp (.emp :: L2 v') := fun v' => ⟨rfl⟩
  exact Wl.pushO (L2 := fun v' => Atom.data (Rd.slice t) [u] x :: L2 v') (L3 := fun v' => .emp :: L2 v') rfl h1 (by omega) hcu hlen fun H' v' h' => k H' v' h'.tl

/-- Zeros are appended. -/
theorem Wl.appendZ {α : Type} {r : Rd α} [p : Plain r] {ty : TypeId} {v : Value} {zc : List Value} {z : α} {xs : List α} {i m : Nat} {κ : IntKind} (hz : ∀ H, r.rel H [] zc z) (h : Loc H0 L H) [c : AtV L [v] (.grow r ty v xs) i] {L2 : Value → List (Atom H0.next)} [s : ∀ v', SetI L i (.grow r ty v' (xs ++ List.replicate m z)) (L2 v')]
    (hlen : xs.length + m ≤ 16777216) (k : ∀ H' v', Loc H0 (L2 v') H' → K v' H') : W.appendZ zc ty v (.int κ m) H K := by
  have hl : zc.length = r.n := r.len (hz H)
  obtain ⟨bs, g, _, u⟩ := h.upd c.get
  refine ⟨by omega, by omega, ?_⟩
  rw [Int.toNat_natCast, hl]
  rcases Nat.eq_zero_or_pos m with h0 | h0
  · subst h0
    have hk := k H v
    rw [(s v).eq] at hk
    have hk2 := hk (u H _ bs (Nat.le_refl _) (fun _ _ _ => rfl) (by simpa using g) fun c hc => .inl hc)
    clear hk
    rcases g with ⟨rfl, rfl, rfl⟩ | ⟨b, e, kb, fs, rfl, he2, _⟩
    · unfold appendTo
      simp only [Nat.add_zero, Nat.zero_div, Nat.le_refl, if_true]
      exact hk2
    · unfold appendTo
      simp only [Nat.add_zero]
      rw [if_pos (by omega)]
      simp only [if_true]
      exact hk2
  · have hrl : (List.replicate m z).length = m := by simp
    have he : ∀ i (hi : i < (List.replicate m z).length), r.rel H [] (cellsAt r.n (reps m zc) 0 i) (List.replicate m z)[i] := fun i hi => by
      simp only [List.getElem_replicate]
      rw [← hl, reps_cells (by simpa using hi)]
      exact hz H
    have hn : (reps m zc).length = (List.replicate m z).length * r.n := by simp [reps_length, hl]
    have := grow_appendTo (zs := List.replicate m z) (new := reps m zc) (K := K) g (by simpa using h0) hn (cells_all (gs := fun _ => []) hn he) (by simpa using hlen) (fun _ => []) (fun i hi => ⟨he i hi, fun c hc => by cases hc⟩) (by rw [flat_nil fun _ _ => rfl]; exact List.nodup_nil) (fun c _ => by rw [flat_nil fun _ _ => rfl]; simp) fun H' v' bs' p' hn' hsame hbs => k H' v' (by
      rw [(s v').eq]
      refine u H' _ bs' hn' hsame p' fun c hc => ?_
      rcases hbs c hc with h | h | h
      · exact .inl h
      · rw [flat_nil fun _ _ => rfl] at h; cases h
      · exact .inr h)
    rw [hrl] at this
    exact this

end

end Go.Ab

/-! Rows that grow. -/
namespace Go.Ab

/-! ### Rows that grow -/

/-- A slice that may grow, as a reading. -/
def Rd.gslice {α : Type} (r : Rd α) (ty : TypeId) : Rd (List α) where
  n := 1
  rel := fun H bs cs xs => ∃ v, cs = [v] ∧ (Atom.grow (n := 0) r ty v xs).P H bs
  len := fun ⟨v, h, _⟩ => by rw [h]; rfl
  cell := fun ⟨v, h, p⟩ => by
    rw [h]
    rcases p with ⟨rfl, _⟩ | ⟨b, e, kb, fs, rfl, _⟩ <;> rfl
  low := fun ⟨_, _, p⟩ => (Atom.grow (n := 0) r ty _ _).low p
  frame := fun ⟨v, h, p⟩ hn hb => ⟨v, h, (Atom.grow (n := 0) r ty v _).frame p (Nat.zero_le _) hn fun b hm => hb b (hm.resolve_left (by omega))⟩

theorem gslice_slice {α : Type} {r : Rd α} {ty : TypeId} {H : Heap} {bs : List Nat} {cs : List Value} {xs : List α} (h : (Rd.gslice r ty).rel H bs cs xs) : (Rd.slice r).rel H bs cs xs := by
  obtain ⟨v, rfl, p⟩ := h
  exact (grow_data p).1

theorem SlAt.imp {α : Type} {r s : Rd α} (hn : r.n = s.n) (h : ∀ {H bs cs x}, r.rel H bs cs x → s.rel H bs cs x) {H : Heap} {b o e : Nat} {kb : Blk} {fs : Nat → List Nat} {xs : List α} (g : SlAt r H b o e kb fs xs) : SlAt s H b o e kb fs xs :=
  ⟨g.lt, g.blk, g.cap, g.small, by rw [← hn]; exact g.room, fun i hi => by rw [← hn]; exact h (g.each i hi)⟩

section
variable {H0 H H' H1 : Heap} {L L' : List (Atom H0.next)} {K : Post}

/-- Rows that could grow, as rows. -/
theorem Loc.ungrow (h : Loc H0 L H) {α : Type} {r : Rd α} {ty : TypeId} {v : Value} {us : List Value} {xs : List (List α)} {i : Nat} (hi : L[i]? = some (.rows (Rd.gslice r ty) v us xs)) [m : SetI L i (.data (Rd.slice (Rd.slice r)) [v] xs) L'] : Loc H0 L' H := by
  rw [m.eq]
  refine h.as hi fun bs p => ⟨bs, ⟨?_, p.2.1, p.2.2.1⟩, fun c hc => hc⟩
  rcases p.1 with h | ⟨b, o, e, kb, fs, h1, h2, s⟩
  · exact .inl h
  · exact .inr ⟨b, o, e, kb, fs, h1, h2, SlAt.imp (r := Rd.gslice r ty) (s := Rd.slice r) rfl (fun h => gslice_slice h) s⟩

/-- One element more to one of the rows. -/
theorem Wl.rowPush {α : Type} {r : Rd α} [Plain r] {ty ty' : TypeId} {v x : Value} {zc cs : List Value} {us : List Value} {xs : List (List α)} {y : α} {a j m : Nat} {κ : IntKind} (hm : r.n = m) (hz : zc.length = m) (hx : cellsA x = some cs) (hy : ∀ H, r.rel H [] cs y)
    (h : Loc H0 L H) [c : AtV L [v] (.rows (Rd.gslice r ty) v us xs) j] (ha : a < xs.length) {L2 : List Value → List (Atom H0.next)} [s : ∀ us', SetI L j (.rows (Rd.gslice r ty) v us' (xs.set a (xs[a] ++ [y]))) (L2 us')] (hlen : xs[a].length < 16777216)
    (k : ∀ H' us', Loc H0 (L2 us') H' → K undef H') :
    W.indexAddr 1 v (.int κ a) H fun p H => W.get p H fun u H => W.lit 1 zc ty' [(0, m, x)] H fun w H => W.append m ty u w H fun u' H => W.indexAddr 1 v (.int κ a) H fun p H => W.put p u' H K := by
  subst hm
  have hl : cs.length = r.n := r.len (hy H)
  obtain ⟨bs, ⟨hs1, hnd, hrw, hul, hheads⟩, hge, up⟩ := h.upd c.get
  obtain ⟨b, o, e, kb, fs, q1, q2, sl⟩ := Rd.slice_at hs1 ha
  obtain ⟨u, hcell, v', hv', gp⟩ := sl.one rfl ha
  simp only [List.cons.injEq, and_true] at hv'
  subst hv' q1 q2
  have hbn := List.nodup_cons.1 hnd
  have hmem : ∀ j, j < xs.length → ∀ c ∈ fs j, c ∈ b :: (List.range xs.length).flatMap fs := fun j hj c hc => List.mem_cons_of_mem _ (List.mem_flatMap.2 ⟨j, by simpa using hj, hc⟩)
  have hnb : ∀ j, j < xs.length → b ∉ fs j := fun j hj hc => hbn.1 (List.mem_flatMap.2 ⟨j, by simpa using hj, hc⟩)
  have low : ∀ j (hj : j < xs.length), ∀ c ∈ fs j, c < H.next := fun j hj => (Rd.gslice r ty).low (sl.each j hj)
  have hlt := sl.lt
  have hin := sl.in ha
  simp only [Rd.gslice] at hin
  refine Wi.index ha (Wi.get sl.blk hcell ?_)
  refine Wi.lit (cells := cs) ?_ fun H1 l1 n1 k1 => ?_
  · have e : reps 1 zc = zc := by simp [reps]
    simp only [fillA, hx, e, hl, hz, Nat.zero_add, Nat.le_refl, and_self, if_true, List.take_zero, List.nil_append]
    rw [List.drop_of_length_le (by omega), List.append_nil]
  have gp1 : (Atom.grow (n := 0) r ty u xs[a]).P H1 (fs a) := (Atom.grow (n := 0) r ty u xs[a]).frame gp (Nat.zero_le _) l1.next fun c hc => l1.blk c (low a ha c (hc.resolve_left (by omega)))
  have hs : srcCells r.n H1 (.slice (some (Go.Ab.adr H.next 0)) 1 (2 * 1)) = some (([y] : List α).length, cs) := by
    simp only [srcCells, Heap.getN, k1, Option.bind_some]
    rw [if_neg (by omega), if_pos (by simp [hl])]
    simp [List.take_of_length_le (Nat.le_of_eq hl)]
  refine grow_append (zs := [y]) gp1 hs (by simp) (by simp [hl]) (r.cell (hy H)) (by simp; omega) (fun _ => []) (fun i hi => ?_) (by simp) (by simp) fun H2 v2 bs2 p2 hn2 hsame2 hbs2 => ?_
  · have : i = 0 := by simp at hi; omega
    subst this
    refine ⟨?_, fun c hc => by cases hc⟩
    have e : cellsAt r.n cs 0 0 = cs := by unfold cellsAt; simp [← hl]
    rw [e]
    exact hy H1
  have n1' := l1.next
  have hb2 : H2.blk b = some kb := by rw [hsame2 b (by omega) (hnb a ha), l1.blk b hlt]; exact sl.blk
  have hro : kb.ro = false := hrw b (by simp) kb sl.blk
  have g2 := grow_data p2
  have hbs2' : ∀ c ∈ bs2, c ∈ fs a ∨ H1.next ≤ c := fun c hc => by
    rcases hbs2 c hc with h | h | h
    · exact .inl h
    · simp at h
    · exact .inr h
  have hbb2 : b ∉ bs2 := fun hm => by
    rcases hbs2' b hm with h | h
    · exact hnb a ha h
    · omega
  refine Wi.index ha (Wi.put hb2 (by have := (Rd.slice r).cell g2.1; simpa using this) hro (by omega) fun H3 w => k H3 (us.set a v2) ?_)
  rw [(s (us.set a v2)).eq]
  have n3 : H3.next = H2.next := w.next
  -- all blocks but b and those of the row are as they were
  have same : ∀ c, c < H.next → c ≠ b → c ∉ fs a → H3.blk c = H.blk c := fun c hc h1 h2 => by rw [w.off c h1, hsame2 c (by omega) h2, l1.blk c hc]
  have hdis : ∀ j, j < xs.length → j ≠ a → ∀ c ∈ fs j, c ∉ fs a := fun j hj hja c hc => (flat_nodup hbn.2 hj ha).2 hja c hc
  have same2 : ∀ c ∈ bs2, H3.blk c = H2.blk c := fun c hc => w.off c fun e => hbb2 (e ▸ hc)
  have hlen' : (xs.set a (xs[a] ++ [y])).length = xs.length := List.length_set
  refine up H3 _ (b :: (List.range xs.length).flatMap fun j => if j = a then bs2 else fs j) (by omega) (fun c hc hcb => same c hc (fun e => hcb (by simp [e])) fun h => hcb (hmem a ha c h)) ⟨?_, ?_, ?_, ?_, ?_⟩ ?_
  · refine .inr ⟨b, o, e, _, fun j => if j = a then bs2 else fs j, by rw [hlen'], by rw [hlen'], ⟨by omega, w.here, by rw [hlen']; exact sl.cap, by rw [hlen']; exact sl.small, ?_, fun j hj => ?_⟩⟩
    · rw [hlen']
      have := sl.room
      simpa [Rd.gslice] using this
    · have hj' : j < xs.length := by rw [hlen'] at hj; exact hj
      have hinj := sl.in hj'
      simp only [Rd.gslice] at hinj
      have ec : cellsAt 1 (kb.cells.set (o + a * 1) v2) o j = if j = a then [v2] else cellsAt 1 kb.cells o j := by
        rw [cellsAt_one (by simp; omega)]
        by_cases hja : j = a
        · subst hja; simp
        · rw [if_neg hja, cellsAt_one (by omega), List.getElem_set_ne (by omega)]
      show (Rd.gslice r ty).rel H3 _ (cellsAt 1 _ o j) _
      rw [ec]
      by_cases hja : j = a
      · subst hja
        simp only [if_true, List.getElem_set_self]
        exact ⟨v2, rfl, (Atom.grow (n := 0) r ty v2 _).frame p2 (Nat.zero_le _) (by omega) fun c hc => same2 c (hc.resolve_left (by omega))⟩
      · simp only [if_neg hja]
        rw [List.getElem_set_ne (fun e => hja e.symm)]
        exact (Rd.gslice r ty).frame (sl.each j hj') (by omega) fun c hc => same c (low j hj' c hc) (fun e => hnb j hj' (e ▸ hc)) (hdis j hj' hja c hc)
  · refine List.nodup_cons.2 ⟨fun hm => ?_, List.pairwise_flatMap.2 ⟨fun j hj => ?_, ?_⟩⟩
    · obtain ⟨j, hj, hc⟩ := List.mem_flatMap.1 hm
      split at hc
      · exact hbb2 hc
      · exact hnb j (by simpa using hj) hc
    · split
      · exact g2.2.1
      · exact (flat_nodup hbn.2 (by simpa using hj) ha).1
    · refine List.pairwise_iff_getElem.2 fun i j hi hj hij c hc d hd hcd => ?_
      simp only [List.length_range] at hi hj
      simp only [List.getElem_range] at hc hd
      subst hcd
      have far : ∀ i, i < xs.length → i ≠ a → c ∈ fs i → c ∉ bs2 := fun i hi hia hc hm => by
        rcases hbs2' c hm with h | h
        · exact hdis i hi hia c hc h
        · have := low i hi c hc; omega
      by_cases hia : i = a
      · rw [if_pos hia] at hc
        rw [if_neg (by omega)] at hd
        exact far j hj (by omega) hd hc
      · rw [if_neg hia] at hc
        by_cases hja : j = a
        · rw [if_pos hja] at hd
          exact far i hi hia hc hd
        · rw [if_neg hja] at hd
          exact (flat_nodup hbn.2 hi hj).2 (by omega) c hc hd
  · intro c hc kc hk
    rcases List.mem_cons.1 hc with rfl | hc
    · rw [w.here] at hk; cases hk; exact hro
    · obtain ⟨j, hj, hc⟩ := List.mem_flatMap.1 hc
      have hj : j < xs.length := by simpa using hj
      split at hc
      · rw [same2 c hc] at hk
        exact g2.2.2 c hc kc hk
      · rename_i hja
        rw [same c (low j hj c hc) (fun e => hnb j hj (e ▸ hc)) (hdis j hj hja c hc)] at hk
        exact hrw c (hmem j hj c hc) kc hk
  · rw [List.length_set, hlen']; exact hul
  · intro i hi
    rw [hlen'] at hi
    have h0 := hheads i hi
    simp only [headAt, sl.blk, Option.bind_some] at h0
    simp only [headAt, w.here, Option.bind_some, Nat.mul_one]
    by_cases hia : i = a
    · subst hia
      rw [List.getElem?_set_self (by omega), List.getElem?_set_self (by omega)]
    · rw [List.getElem?_set_ne (by omega), List.getElem?_set_ne (fun e => hia e.symm)]
      exact h0
  · intro c hc
    rcases List.mem_cons.1 hc with rfl | hc
    · exact .inl (by simp)
    · obtain ⟨j, hj, hc⟩ := List.mem_flatMap.1 hc
      have hj : j < xs.length := by simpa using hj
      split at hc
      · rcases hbs2' c hc with h | h
        · exact .inl (hmem a ha c h)
        · exact .inr (by omega)
      · exact .inl (hmem j hj c hc)

end

end Go.Ab

/-! slices.Grow and slices.Concat. -/
namespace Go.Ab

def growW (zc : List Value) (sz : Nat) (ty : TypeId) (Q : Post) (s n : Value) (H : Heap) : Prop :=
  W.bin .lss n (.int .i64 0) H fun v1 H => W.cond v1 H (fun H => W.no H) (fun H => W.cap s H fun v2 H => W.len s H fun v3 H => W.bin .sub v2 v3 H fun v4 H => W.bin .sub n v4 H fun v5 H =>
    W.bin .gtr v5 (.int .i64 0) H fun v6 H => W.cond v6 H (fun H => W.cap s H fun v7 H => W.slice sz s none (some v7) H fun v8 H => W.appendZ zc ty v8 v5 H fun v9 H => W.len s H fun v10 H => W.slice sz v9 none (some v10) H fun v11 H => Q v11 H) (fun H => Q s H))

def GrowF (P : Program) (f : FuncId) (zc : List Value) (sz : Nat) (ty : TypeId) : Prop :=
  ∀ (Q : Post) (s n : Value) (H : Heap), growW zc sz ty Q s n H → Runs P f #[s, n] H Q

theorem grow_nil {zc : List Value} {ty : TypeId} {Q : Post} {m : Nat} {H : Heap} (hm : m ≤ 16777216) (h0 : m = 0 → Q (.slice none 0 0) H)
    (h1 : 0 < m → ∀ H', H.Le H' → H'.next = H.next + 1 → H'.blk H.next = some ⟨reps m zc, ty, zc.length, false⟩ → Q (.slice (some (adr H.next 0)) 0 (2 * m + 1)) H') : growW zc zc.length ty Q (.slice none 0 0) (.int .i64 m) H := by
  unfold growW
  refine Wi.lssC (fun h => by omega) fun _ => Wi.fls ⟨rfl, Wi.len (Wi.sub (by unfold I64; simp) (Wi.sub (by unfold I64; simp; omega) ?_))⟩
  have e : (m : Int) - (((0 / 2 : Nat) : Int) - ((0 : Nat) : Int)) = m := by simp
  rw [e]
  refine Wi.gtrC (fun h => Wi.tru ⟨rfl, ?_⟩) fun h => Wi.fls (h0 (by omega))
  have hpos : 0 < m := by omega
  refine ⟨by simp, by simp, by simp, by omega, by omega, ?_⟩
  unfold appendTo
  simp only [Int.toNat_natCast]
  rw [if_neg (by omega)]
  refine ⟨by omega, ?_⟩
  simp only [oldCells, Nat.zero_add, List.nil_append, if_true]
  refine Wi.len ⟨by simp, by simp, by omega, ?_⟩
  simp only []
  rw [if_neg (by simp; omega), if_pos (by simp)]
  exact h1 hpos _ ⟨by simp [Heap.alloc], fun b hb => by simp only [Heap.alloc]; rw [if_neg (by omega)]⟩ rfl (by simp [Heap.alloc])

def concatW (P : Program) (g : FuncId) (n1 n2 n3 n4 sz : Nat) (ty : TypeId) (Q : Post) (a : Value) (H : Heap) : Prop :=
  W.len a H fun v1 H => W.loop (S := St [n1, n2]) (fun I s H => W.bin .lss s.2.1 v1 H fun v2 H => W.cond v2 H
    (fun H => W.indexAddr 1 a s.2.1 H fun v3 H => W.get v3 H fun v4 H => W.len v4 H fun v5 H => W.bin .add s.1 v5 H fun v6 H => W.bin .lss v6 (.int .i64 0) H fun v7 H => W.cond v7 H (fun H => W.no H)
      (fun H => W.bin .add s.2.1 (.int .i64 1) H fun v8 H => I (v6, v8, ()) H))
    (fun H => W.call P (.func (.func g) #[] #[]) #[.slice none 0 0, s.1] H fun v9 H => W.len a H fun v10 H => W.loop (S := St [n3, n4]) (fun I s H => W.bin .lss s.2.1 v10 H fun v11 H => W.cond v11 H
      (fun H => W.indexAddr 1 a s.2.1 H fun v12 H => W.get v12 H fun v13 H => W.append sz ty s.1 v13 H fun v14 H => W.bin .add s.2.1 (.int .i64 1) H fun v15 H => I (v14, v15, ()) H)
      (fun H => Q s.1 H)) (v9, .int .i64 0, ()) H)) (.int .i64 0, .int .i64 0, ()) H

/-- What stands behind a Concat: a new block whose elements are those of the parts. -/
structure Joined {α : Type} (r : Rd α) (ty : TypeId) (n : Nat) (H : Heap) (u : Value) (ys : List α) (H' : Heap) : Prop where
  le : H.Le H'
  has : (u = .slice none 0 0 ∧ n = 0 ∧ ys = []) ∨ ∃ (b : Nat) (kb : Blk) (fs : Nat → List Nat), 0 < n ∧ u = .slice (some (adr b 0)) ys.length (2 * n + 1) ∧ ys.length ≤ n ∧ n ≤ 16777216 ∧ H.next ≤ b ∧ b < H'.next ∧ H'.blk b = some kb ∧ kb.ro = false ∧ kb.ty = ty ∧ kb.esz = r.n ∧
    kb.cells.length = n * r.n ∧ kb.cells.all isCell = true ∧ ∀ i (h : i < ys.length), r.rel H' (fs i) (cellsAt r.n kb.cells 0 i) ys[i] ∧ ∀ c ∈ fs i, c < H.next

theorem cellsAt_mid {sz n m : Nat} {cells new : List Value} (hnew : new.length = m * sz) (hl : (n + m) * sz ≤ cells.length) (i : Nat) :
    (i < n → cellsAt sz (cells.take (n * sz) ++ new ++ cells.drop (n * sz + new.length)) 0 i = cellsAt sz cells 0 i) ∧
    (n ≤ i → i < n + m → cellsAt sz (cells.take (n * sz) ++ new ++ cells.drop (n * sz + new.length)) 0 i = cellsAt sz new 0 (i - n)) := by
  rw [Nat.add_mul] at hl
  have ht : (cells.take (n * sz)).length = n * sz := by simp; omega
  constructor
  · intro hi
    have h1 : (i + 1) * sz ≤ n * sz := Nat.mul_le_mul_right _ hi
    rw [Nat.succ_mul] at h1
    rw [List.append_assoc, cellsAt_append_left (by omega)]
    unfold cellsAt
    rw [Nat.zero_add, List.drop_take, List.take_take, Nat.min_eq_left (by omega)]
  · intro h1 h2
    have h3 : (i + 1) * sz ≤ (n + m) * sz := Nat.mul_le_mul_right _ h2
    rw [Nat.succ_mul, Nat.add_mul] at h3
    rw [cellsAt_append_left (by simp; omega), cellsAt_append_right ht h1]

theorem concat_ok {α : Type} {P : Program} {r : Rd α} {g : FuncId} {zc : List Value} {n1 n2 n3 n4 : Nat} {ty : TypeId} (hg : GrowF P g zc zc.length ty) (hzc : zc.length = r.n) (hzl : zc.all isCell = true) {Q : Post} {H : Heap} {a : Value} {xss : List (List α)}
    (h : Has (Rd.slice (Rd.slice r)) H [a] xss) (hlen : xss.flatten.length ≤ 16777216) (hQ : ∀ H' u, Joined r ty xss.flatten.length H u xss.flatten H' → Q u H') : concatW P g n1 n2 n3 n4 r.n ty Q a H := by
  have hsm : xss.length < 9223372036854775808 := let ⟨_, h⟩ := h; Rd.slice_small h
  have flat_take : ∀ i, i < xss.length → (xss.take (i + 1)).flatten = (xss.take i).flatten ++ (xss[i]?).getD [] := fun i hi => by
    rw [List.take_succ_eq_append_getElem hi, List.flatten_append]
    simp [List.getElem?_eq_getElem hi]
  have flat_le : ∀ i, (xss.take i).flatten.length ≤ xss.flatten.length := fun i => by
    have e : xss.flatten = (xss.take i).flatten ++ (xss.drop i).flatten := by rw [← List.flatten_append, List.take_append_drop]
    rw [e, List.length_append]
    omega
  unfold concatW
  refine Wl.lenH h ?_
  refine W.for_rule xss.length (fun i s H' => s = (.int .i64 ((xss.take i).flatten.length : Nat), .int .i64 (i : Nat), ()) ∧ H' = H) ⟨rfl, rfl⟩ ?_
  rintro i s H1 J hi ⟨rfl, rfl⟩ hJ
  simp only
  refine Wi.lssC (fun hlt => Wi.tru ?_) fun hge => Wi.fls ?_
  · have hix : i < xss.length := by omega
    refine Wl.at1H rfl h hix fun u hu => Wl.lenH hu ?_
    have e1 := flat_take i hix
    rw [List.getElem?_eq_getElem hix, Option.getD_some] at e1
    have e2 : (xss.take i).flatten.length + xss[i].length = (xss.take (i + 1)).flatten.length := by rw [e1, List.length_append]
    have e3 := flat_le (i + 1)
    refine Wi.add (by unfold I64; omega) (Wi.lssC (fun h => by omega) fun _ => Wi.fls (Wi.add (by unfold I64; omega) (hJ _ _ hix ⟨?_, rfl⟩)))
    have e4 : (((xss.take i).flatten.length : Nat) : Int) + (xss[i].length : Nat) = ((xss.take (i + 1)).flatten.length : Nat) := by omega
    rw [e4]
    rfl
  · have hie : i = xss.length := by omega
    subst hie
    rw [List.take_length]
    -- what is appended to
    have tail : ∀ (v9 : Value) (H2 : Heap), Joined r ty xss.flatten.length H1 v9 [] H2 → W.len a H2 fun v10 H => W.loop (S := St [n3, n4]) (fun I s H => W.bin .lss s.2.1 v10 H fun v11 H => W.cond v11 H
        (fun H => W.indexAddr 1 a s.2.1 H fun v12 H => W.get v12 H fun v13 H => W.append r.n ty s.1 v13 H fun v14 H => W.bin .add s.2.1 (.int .i64 1) H fun v15 H => I (v14, v15, ()) H)
        (fun H => Q s.1 H)) (v9, .int .i64 0, ()) H := by
      intro v9 H2 j0
      refine Wl.lenH (h.le j0.le) ?_
      refine W.for_rule xss.length (fun i s H' => ∃ v, s = (v, .int .i64 (i : Nat), ()) ∧ Joined r ty xss.flatten.length H1 v (xss.take i).flatten H') ⟨v9, rfl, by simpa using j0⟩ ?_
      rintro i s H3 J2 hi ⟨v, rfl, j⟩ hJ2
      simp only
      refine Wi.lssC (fun hlt => Wi.tru ?_) fun hge => Wi.fls ?_
      · have hix : i < xss.length := by omega
        obtain ⟨bs, ha⟩ := h
        obtain ⟨c1, o1, E1, k1, f1, q1, q1', s1⟩ := Rd.slice_at (Rd.le _ ha j.le) hix
        obtain ⟨u1, m1, ru⟩ := s1.one rfl hix
        rw [q1]
        refine Wi.index hix (Wi.get s1.blk m1 ?_)
        have lowu : ∀ c ∈ f1 i, c < H1.next := fun c hc => (Rd.slice (Rd.slice r)).low ha c (by rw [q1', List.mem_cons, List.mem_flatMap]; exact .inr ⟨i, by simpa using hix, hc⟩)
        have e1 := flat_take i hix
        rw [List.getElem?_eq_getElem hix, Option.getD_some] at e1
        have e2 : (xss.take i).flatten.length + xss[i].length = (xss.take (i + 1)).flatten.length := by rw [e1, List.length_append]
        have e3 := flat_le (i + 1)
        have hadd : ∀ v' H', Joined r ty xss.flatten.length H1 v' ((xss.take i).flatten ++ xss[i]) H' → W.bin .add (.int .i64 (i : Nat)) (.int .i64 1) H' fun v15 H => J2 (v', v15, ()) H := fun v' H' j' =>
          Wi.add (by unfold I64; omega) (hJ2 _ _ hix ⟨v', rfl, by rw [e1]; exact j'⟩)
        rcases Nat.eq_zero_or_pos xss[i].length with hz | hz
        · have hnil : xss[i] = [] := List.eq_nil_of_length_eq_zero hz
          rw [hnil] at ru hadd
          simp only [List.append_nil] at hadd
          unfold W.append
          rw [src_nil ru]
          simp only []
          rcases j.has with ⟨rfl, _, _⟩ | ⟨b, kb, fs, _, rfl, _⟩
          · unfold appendTo
            simp only [Nat.add_zero, Nat.zero_div, Nat.le_refl, if_true]
            exact hadd _ _ j
          · unfold appendTo
            simp only [Nat.add_zero]
            rw [if_pos (by omega)]
            simp only [if_true]
            exact hadd _ _ j
        · obtain ⟨new, gs, t1, t2, t3, b', t4⟩ := src_has ru hz
          have lowg : ∀ k, k < xss[i].length → ∀ c ∈ gs k, c < H1.next := fun k hk c hc => lowu c (by rw [t4, List.mem_cons, List.mem_flatMap]; exact .inr ⟨k, by simpa using hk, hc⟩)
          rcases j.has with ⟨_, hn, _⟩ | ⟨b, kb, fs, p1, rfl, p3, p4, p5, p6, p7, p8, p9, p10, p11, p12, p13⟩
          · omega
          · unfold W.append
            rw [t1]
            simp only []
            unfold appendTo
            simp only []
            rw [if_pos (by omega), if_neg (by omega)]
            have hroom : ((xss.take i).flatten.length + xss[i].length) * r.n ≤ kb.cells.length := by rw [p11]; exact Nat.mul_le_mul_right _ (by omega)
            have hset : H3.setN ((adr b 0).add ((xss.take i).flatten.length * r.n)) new = some (H3.setBlk b (some { kb with cells := kb.cells.take ((xss.take i).flatten.length * r.n) ++ new ++ kb.cells.drop ((xss.take i).flatten.length * r.n + new.length) })) := by
              rw [adr_add]
              simp only [Heap.setN, p7, Nat.zero_add]
              rw [Nat.add_mul] at hroom
              rw [if_pos]
              simp only [cells_all t2 t3, p8, Bool.not_false, Bool.and_self, Bool.true_and, decide_eq_true_eq]
              omega
            rw [hset]
            simp only []
            refine hadd _ _ ⟨⟨j.le.next, fun c hc => ?_⟩, .inr ⟨b, { kb with cells := kb.cells.take ((xss.take i).flatten.length * r.n) ++ new ++ kb.cells.drop ((xss.take i).flatten.length * r.n + new.length) }, fun k => if k < (xss.take i).flatten.length then fs k else gs (k - (xss.take i).flatten.length), p1, by rw [List.length_append], by rw [List.length_append]; omega, p4, p5, p6, by simp [Heap.setBlk], p8, p9, p10, ?_, ?_, fun k hk => ?_⟩⟩
            · simp only [Heap.setBlk]
              rw [if_neg (by omega)]
              exact j.le.blk c hc
            · rw [Nat.add_mul] at hroom
              simp only [List.length_append, List.length_take, List.length_drop]
              omega
            · simp only [List.all_append, cells_all t2 t3, Bool.and_true, Bool.and_eq_true]
              rw [List.all_eq_true] at p12 ⊢
              refine ⟨fun x hx => p12 x (List.mem_of_mem_take hx), ?_⟩
              rw [List.all_eq_true]
              exact fun x hx => p12 x (List.mem_of_mem_drop hx)
            · have hfr : ∀ fs' : List Nat, (∀ c ∈ fs', c < H1.next) → ∀ c ∈ fs', (H3.setBlk b (some { kb with cells := kb.cells.take ((xss.take i).flatten.length * r.n) ++ new ++ kb.cells.drop ((xss.take i).flatten.length * r.n + new.length) })).blk c = H3.blk c := fun fs' hl c hc => by
                have := hl c hc
                simp only [Heap.setBlk]
                rw [if_neg (by omega)]
              have hmid := cellsAt_mid t2 hroom k
              rw [List.length_append] at hk
              by_cases hkn : k < (xss.take i).flatten.length
              · simp only [if_pos hkn]
                rw [hmid.1 hkn, List.getElem_append_left hkn]
                exact ⟨r.frame (p13 k hkn).1 (by simp [Heap.setBlk]) (hfr _ (p13 k hkn).2), (p13 k hkn).2⟩
              · simp only [if_neg hkn]
                rw [hmid.2 (by omega) hk, List.getElem_append_right (by omega)]
                exact ⟨r.frame (t3 _ (by omega)) (by simp [Heap.setBlk]) (hfr _ (lowg _ (by omega))), lowg _ (by omega)⟩
      · have hie : i = xss.length := by omega
        subst hie
        rw [List.take_length] at j
        exact hQ _ _ j
    refine Wi.call (hg _ _ _ _ (grow_nil (by omega) (fun h0 => tail _ _ ⟨.refl _, .inl ⟨rfl, h0, rfl⟩⟩) fun hpos H2 l2 n2 k2 => tail _ _ ⟨l2, .inr ⟨H1.next, _, fun _ => [], hpos, rfl, by simp, by omega, Nat.le_refl _, by omega, k2, rfl, rfl, hzc, ?_, ?_, fun i hi => by simp at hi⟩⟩))
    · simp [reps_length, hzc]
    · rw [List.all_eq_true]
      intro c hc
      simp only [reps, List.mem_flatten, List.mem_replicate] at hc
      obtain ⟨l, ⟨_, rfl⟩, hc⟩ := hc
      exact List.all_eq_true.1 hzl c hc

theorem Joined.read {α : Type} {r : Rd α} {ty : TypeId} {H H' : Heap} {u : Value} {ys : List α} (j : Joined r ty ys.length H u ys H') : Has (Rd.slice r) H' [u] ys := by
  rcases j.has with ⟨rfl, _, rfl⟩ | ⟨b, kb, fs, p1, rfl, p3, p4, p5, p6, p7, p8, p9, p10, p11, p12, p13⟩
  · exact ⟨[], .inl ⟨rfl, rfl, .inl rfl⟩⟩
  · exact ⟨_, .inr ⟨b, 0, _, kb, fs, rfl, rfl, ⟨p6, p7, by omega, by omega, by omega, fun i hi => (p13 i hi).1⟩⟩⟩

theorem Joined.plain {α : Type} {r : Rd α} [p : Plain r] {ty : TypeId} {H H' : Heap} {u : Value} {ys : List α} (j : Joined r ty ys.length H u ys H') : FreshG r ty H u ys H' := by
  refine ⟨j.le, ?_⟩
  rcases j.has with ⟨rfl, _, rfl⟩ | ⟨b, kb, fs, p1, rfl, p3, p4, p5, p6, p7, p8, p9, p10, p11, p12, p13⟩
  · exact ⟨[], .inl ⟨rfl, rfl, rfl⟩, fun c hc => by cases hc⟩
  · have hn : ∀ i, i < ys.length → fs i = [] := fun i hi => (p.no (p13 i hi).1).1
    have hf := flat_nil hn
    refine ⟨b :: (List.range ys.length).flatMap fs, .inr ⟨b, _, kb, fs, rfl, by omega, rfl, by rw [hf]; simp, ?_, ⟨p6, p7, by omega, by omega, by omega, fun i hi => (p13 i hi).1⟩, p9, p10, p11, p12⟩, fun c hc => ?_⟩
    · rw [hf]
      intro c hc kc hk
      simp at hc
      subst hc
      rw [p7] at hk
      cases hk
      exact p8
    · rw [hf] at hc
      simp at hc
      omega

/-- slices.Concat of a function's number. -/
def ConcatF {α : Type} (P : Program) (f : FuncId) (r : Rd α) (ty : TypeId) : Prop :=
  ∀ (H : Heap) (a : Value) (xss : List (List α)) (Q : Post), Has (Rd.slice (Rd.slice r)) H [a] xss → xss.flatten.length ≤ 16777216 → (∀ H' u, Joined r ty xss.flatten.length H u xss.flatten H' → Q u H') → Runs P f #[a] H Q

end Go.Ab

/-! Fractions in lowest terms. No program here. -/
namespace Go.Ab

theorem gcd_step (a b : Int) : Int.gcd b (a.tmod b) = Int.gcd a b := by
  simp only [Int.gcd, Int.natAbs_tmod]
  rw [Nat.gcd_comm, ← Nat.gcd_rec, Nat.gcd_comm]

theorem tmod_lt (a : Int) {b : Int} (h : b ≠ 0) : (a.tmod b).natAbs < b.natAbs := by
  rw [Int.natAbs_tmod]
  exact Nat.mod_lt _ (by omega)

def inR (lo hi n : Int) : Bool := decide (lo ≤ n) && decide (n ≤ hi)

theorem inR_iff {lo hi n : Int} : inR lo hi n = true ↔ lo ≤ n ∧ n ≤ hi := by simp [inR]

abbrev Frac := Int × Int

/-- A fraction whose numbers are at most m. -/
def isFr (m : Int) (a : Frac) : Bool := inR 1 m a.2 && inR (-m) m a.1 && decide (Int.gcd a.1 a.2 = 1)

theorem isFr_iff {m : Int} {a : Frac} : isFr m a = true ↔ (1 ≤ a.2 ∧ a.2 ≤ m) ∧ (-m ≤ a.1 ∧ a.1 ≤ m) ∧ Int.gcd a.1 a.2 = 1 := by
  simp [isFr, inR, and_assoc]

/-- The fraction of two numbers, the second one not 0. -/
def frac (n d : Int) : Frac := if d < 0 then (-(n / Int.gcd n d), -(d / Int.gcd n d)) else (n / Int.gcd n d, d / Int.gcd n d)

/-- The same, if it is within the limits. -/
def fracT (n d : Int) : Frac × Int := if isFr 1000000000 (frac n d) then (frac n d, 0) else ((0, 0), 3)

theorem gcd_pos {n d : Int} (h : d ≠ 0) : 0 < Int.gcd n d := Int.gcd_pos_of_ne_zero_right n h

theorem frac_pos {n d : Int} (h : d ≠ 0) : 0 < (frac n d).2 := by
  have hg := gcd_pos (n := n) h
  obtain ⟨k, hk⟩ := Int.gcd_dvd_right n d
  unfold frac
  have h1 : d / (Int.gcd n d : Int) = k := by
    conv => lhs; lhs; rw [hk]
    rw [Int.mul_ediv_cancel_left _ (by omega)]
  have hk0 : k ≠ 0 := fun e => h (by rw [hk, e, Int.mul_zero])
  split
  · rename_i hd
    simp only [h1]
    rcases Int.lt_or_gt_of_ne hk0 with h2 | h2
    · omega
    · have : 0 < (Int.gcd n d : Int) * k := Int.mul_pos (by omega) h2
      omega
  · rename_i hd
    simp only [h1]
    rcases Int.lt_or_gt_of_ne hk0 with h2 | h2
    · have : (Int.gcd n d : Int) * k < 0 := Int.mul_neg_of_pos_of_neg (by omega) h2
      omega
    · exact h2

/-- A fraction's numbers times the others'. -/
theorem frac_mul {n d : Int} (h : d ≠ 0) : (frac n d).1 * d = n * (frac n d).2 := by
  have hg := gcd_pos (n := n) h
  obtain ⟨k, hk⟩ := Int.gcd_dvd_right n d
  obtain ⟨j, hj⟩ := Int.gcd_dvd_left n d
  have h1 : d / (Int.gcd n d : Int) = k := by
    conv => lhs; lhs; rw [hk]
    rw [Int.mul_ediv_cancel_left _ (by omega)]
  have h2 : n / (Int.gcd n d : Int) = j := by
    conv => lhs; lhs; rw [hj]
    rw [Int.mul_ediv_cancel_left _ (by omega)]
  unfold frac
  rw [h1, h2]
  generalize (Int.gcd n d : Int) = g at *
  split
  · simp only
    rw [hk, hj]
    grind
  · simp only
    rw [hk, hj]
    grind

end Go.Ab

/-! Slices of fractions, two cells each: reading, writing, comparing, copying, marking. No program here. -/
namespace Go.Ab

abbrev RFrac : Rd Frac := Rd.pair Rd.int Rd.int
abbrev RFS : Rd (List Frac) := Rd.slice RFrac

/-- A fraction's two cells. -/
abbrev frC (a : Frac) : List Value := [.int .i64 a.1, .int .i64 a.2]

theorem RFrac_iff {H : Heap} {bs : List Nat} {cs : List Value} {a : Frac} : RFrac.rel H bs cs a ↔ bs = [] ∧ cs = frC a ∧ I64 a.1 ∧ I64 a.2 := by
  constructor
  · rintro ⟨b1, b2, c1, c2, rfl, rfl, ⟨rfl, rfl, h1⟩, rfl, rfl, h2⟩
    exact ⟨rfl, rfl, h1, h2⟩
  · rintro ⟨rfl, rfl, h1, h2⟩
    exact ⟨[], [], _, _, rfl, rfl, ⟨rfl, rfl, h1⟩, rfl, rfl, h2⟩

theorem frac_rel {a : Frac} (h : I64 a.1 ∧ I64 a.2) (H : Heap) : RFrac.rel H [] (frC a) a := RFrac_iff.2 ⟨rfl, rfl, h⟩

theorem SlAt.frac {H : Heap} {b o e : Nat} {kb : Blk} {fs : Nat → List Nat} {xs : List Frac} (s : SlAt RFrac H b o e kb fs xs) {i : Nat} (hi : i < xs.length) :
    o + i * 2 + 2 ≤ kb.cells.length ∧ (kb.cells.drop (o + i * 2)).take 2 = frC xs[i] ∧ I64 xs[i].1 ∧ I64 xs[i].2 := by
  obtain ⟨_, h2, h3⟩ := RFrac_iff.1 (s.each i hi)
  exact ⟨s.in hi, h2, h3⟩

theorem SlAt.cell1 {H : Heap} {b o e : Nat} {kb : Blk} {fs : Nat → List Nat} {xs : List Frac} (s : SlAt RFrac H b o e kb fs xs) {i : Nat} (hi : i < xs.length) :
    kb.cells[o + i * 2]? = some (.int .i64 xs[i].1) ∧ kb.cells[o + i * 2 + 1]? = some (.int .i64 xs[i].2) := by
  obtain ⟨h1, h2, _⟩ := s.frac hi
  have e0 : ((kb.cells.drop (o + i * 2)).take 2)[0]? = (frC xs[i])[0]? := by rw [h2]
  have e1 : ((kb.cells.drop (o + i * 2)).take 2)[1]? = (frC xs[i])[1]? := by rw [h2]
  rw [List.getElem?_take, if_pos (by omega), List.getElem?_drop] at e0 e1
  exact ⟨by simpa using e0, by simpa using e1⟩

/-- A fraction out of a slice. -/
theorem Wl.atFrH {v : Value} {xs : List Frac} {i : Nat} {κ : IntKind} {H : Heap} {K : Post} (h : Has RFS H [v] xs) (hi : i < xs.length) (k : I64 xs[i].1 → I64 xs[i].2 → K (.agg (frC xs[i]).toArray) H) :
    W.indexAddr 2 v (.int κ i) H fun p H => W.getN 2 p H K := by
  obtain ⟨bs, h⟩ := h
  obtain ⟨b, o, e, kb, fs, q1, _, s⟩ := Rd.slice_at h hi
  obtain ⟨h1, h2, h3, h4⟩ := s.frac hi
  rw [q1]
  refine Wi.index hi (Wi.getN s.blk h1 ?_)
  rw [h2]
  exact k h3 h4

/-- The numbers of a fraction in a slice. -/
theorem Wl.numFrH {v : Value} {xs : List Frac} {i : Nat} {κ : IntKind} {H : Heap} {K : Post} (h : Has RFS H [v] xs) (hi : i < xs.length) (k : I64 xs[i].1 → K (.int .i64 xs[i].1) H) :
    W.indexAddr 2 v (.int κ i) H fun p H => W.fieldAddr 0 p H fun p H => W.get p H K := by
  obtain ⟨bs, h⟩ := h
  obtain ⟨b, o, e, kb, fs, q1, _, s⟩ := Rd.slice_at h hi
  obtain ⟨h1, h2⟩ := s.cell1 hi
  rw [q1]
  exact Wi.index hi (Wi.fieldAddr (Wi.get s.blk (by simpa using h1) (k (s.frac hi).2.2.1)))

theorem Wl.denFrH {v : Value} {xs : List Frac} {i : Nat} {κ : IntKind} {H : Heap} {K : Post} (h : Has RFS H [v] xs) (hi : i < xs.length) (k : I64 xs[i].2 → K (.int .i64 xs[i].2) H) :
    W.indexAddr 2 v (.int κ i) H fun p H => W.fieldAddr 1 p H fun p H => W.get p H K := by
  obtain ⟨bs, h⟩ := h
  obtain ⟨b, o, e, kb, fs, q1, _, s⟩ := Rd.slice_at h hi
  obtain ⟨h1, h2⟩ := s.cell1 hi
  rw [q1]
  exact Wi.index hi (Wi.fieldAddr (Wi.get s.blk h2 (k (s.frac hi).2.2.2)))

variable {H0 H : Heap} {L L' : List (Atom H0.next)} {K : Post}

theorem Wl.atFr {v : Value} {xs : List Frac} {i : Nat} {κ : IntKind} (h : Loc H0 L H) [RdV L [v] RFS xs] (hi : i < xs.length) (k : I64 xs[i].1 → I64 xs[i].2 → K (.agg (frC xs[i]).toArray) H) :
    W.indexAddr 2 v (.int κ i) H fun p H => W.getN 2 p H K := Wl.atFrH h.rd hi k
theorem Wl.numFr {v : Value} {xs : List Frac} {i : Nat} {κ : IntKind} (h : Loc H0 L H) [RdV L [v] RFS xs] (hi : i < xs.length) (k : I64 xs[i].1 → K (.int .i64 xs[i].1) H) :
    W.indexAddr 2 v (.int κ i) H fun p H => W.fieldAddr 0 p H fun p H => W.get p H K := Wl.numFrH h.rd hi k
theorem Wl.denFr {v : Value} {xs : List Frac} {i : Nat} {κ : IntKind} (h : Loc H0 L H) [RdV L [v] RFS xs] (hi : i < xs.length) (k : I64 xs[i].2 → K (.int .i64 xs[i].2) H) :
    W.indexAddr 2 v (.int κ i) H fun p H => W.fieldAddr 1 p H fun p H => W.get p H K := Wl.denFrH h.rd hi k

/-! ### Marks of fractions -/
abbrev mkFr : Frac → Int → Frac := fun _ k => (k, k + 1)
abbrev mkFS := mkl mkFr (fun _ => 2)
abbrev szFS := szl (fun (_ : Frac) => 2)

end Go.Ab
