/- Words over things. -/
import Derived.Test.YtdbdmlfnggbdiaaZabLoc
namespace Go.Ab

section
variable {n : Nat}
instance {α : Type} {r : Rd α} {cs : List Value} {x : α} {L : List (Atom n)} : RdV (.data r cs x :: L) cs r x := ⟨_, List.mem_cons_self, fun _ _ h => ⟨_, h.1⟩⟩
instance {α : Type} {r : Rd α} {cs : List Value} {x : α} {L : List (Atom n)} : RdV (.lent r cs x :: L) cs r x := ⟨_, List.mem_cons_self, fun _ _ h => let ⟨_, bs, h, _⟩ := h; ⟨bs, h⟩⟩
instance {α : Type} {r : Rd α} {v : Value} {xs : List α} {ty : TypeId} {L : List (Atom n)} : RdV (.grow r ty v xs :: L) [v] (Rd.slice r) xs := ⟨_, List.mem_cons_self, fun H bs h => by
  rcases h with ⟨rfl, rfl, _⟩ | ⟨b, e, kb, fs, rfl, h2, h3, h4, h5, s, _⟩
  · exact ⟨[], .inl ⟨rfl, rfl, .inl rfl⟩⟩
  · exact ⟨_, .inr ⟨b, 0, e, kb, fs, rfl, rfl, s⟩⟩⟩
instance {α : Type} {r : Rd α} {cs : List Value} {x : α} {L : List (Atom n)} {c : Atom n} [h : RdV L cs r x] : RdV (c :: L) cs r x := ⟨let ⟨a, h1, h2⟩ := h.get; ⟨a, List.mem_cons_of_mem _ h1, h2⟩⟩
end

section
variable {H0 H H' : Heap} {L L' : List (Atom H0.next)} {K : Post}

theorem Loc.mem (h : Loc H0 L H) {a : Atom H0.next} (ha : a ∈ L) : ∃ bs, a.P H bs ∧ ∀ b ∈ bs, H0.next ≤ b := by
  obtain ⟨_, F, h1, _⟩ := h
  obtain ⟨i, hi, rfl⟩ := List.mem_iff_getElem.1 ha
  exact ⟨F i, h1 i _ (List.getElem?_eq_getElem hi)⟩

/-- How a value reads. -/
theorem Loc.rd {α : Type} {r : Rd α} {cs : List Value} {x : α} (h : Loc H0 L H) [c : RdV L cs r x] : Has r H cs x := by
  obtain ⟨a, h1, h2⟩ := c.get
  obtain ⟨bs, p, _⟩ := h.mem h1
  exact h2 H bs p

theorem Loc.bx {b : Nat} {cs : List Value} (h : Loc H0 L H) [c : RdB L b cs] : b < H.next ∧ ∃ kb, H.blk b = some kb ∧ kb.cells = cs := by
  rcases c.get with hm | hm
  · obtain ⟨bs, ⟨_, h1, ty, e, h2⟩, _⟩ := h.mem hm
    exact ⟨h1, _, h2, rfl⟩
  · obtain ⟨bs, ⟨_, h1, kb, h2, h3⟩, _⟩ := h.mem hm
    exact ⟨Nat.lt_of_lt_of_le h1 h.le.next, kb, h2, h3⟩

/-- What was there is lent. -/
theorem Loc.lent {α : Type} {r : Rd α} {cs : List Value} {x : α} (h : Loc H0 L H) (hr : Has r H0 cs x) : Loc H0 (.lent r cs x :: L) H := by
  obtain ⟨bs, hr⟩ := hr
  exact h.cons (.refl _) (bs := []) ⟨rfl, bs, Rd.le _ hr h.le, r.low hr⟩ fun b hb => by cases hb

theorem Loc.lbox {b : Nat} {kb : Blk} {cs : List Value} (h : Loc H0 L H) (hb : H0.blk b = some kb) (hlt : b < H0.next) (hc : kb.cells = cs) : Loc H0 (.lbox b cs :: L) H :=
  h.cons (.refl _) (bs := []) ⟨rfl, hlt, kb, h.le.at hb hlt, hc⟩ fun b hb => by cases hb

theorem Loc.add {α : Type} {r : Rd α} {cs : List Value} {x : α} (h : Loc H0 L H) (f : Fresh r H cs x H') : Loc H0 (.data r cs x :: L) H' := by
  obtain ⟨bs, h1, h2, h3, h4⟩ := f.has
  exact h.cons f.le (bs := bs) ⟨h1, h2, h4⟩ h3

theorem Loc.ret (h : Loc H0 L H) {α : Type} {r : Rd α} {cs : List Value} {x : α} {i : Nat} (hi : L[i]? = some (.data r cs x)) : Fresh r H0 cs x H := by
  obtain ⟨bs, ⟨h1, h2, h4⟩, h3⟩ := h.mem (List.mem_of_getElem? hi)
  exact ⟨h.le, bs, h1, h2, h3, h4⟩

theorem Loc.int (h : Loc H0 L H) {x : Int} (hx : I64 x) : Loc H0 (.data Rd.int [.int .i64 x] x :: L) H :=
  h.cons (.refl _) (bs := []) ⟨⟨rfl, rfl, hx⟩, List.nodup_nil, fun c hc => by cases hc⟩ fun b hb => by cases hb

theorem Loc.pair (h : Loc H0 L H) {α β : Type} {r : Rd α} {s : Rd β} {c1 c2 : List Value} {x : α} {y : β} {i j : Nat} (hi : L[i]? = some (.data r c1 x)) (hj : L[j]? = some (.data s c2 y)) (hij : i ≠ j) :
    Loc H0 ((L.set i (.data (r.pair s) (c1 ++ c2) (x, y))).set j .emp) H := by
  obtain ⟨bs, cs, ⟨p1, p2, p3⟩, ⟨q1, q2, q3⟩, d, _, _, k⟩ := h.upd2 hi hj hij
  refine k H _ (bs ++ cs) (Nat.le_refl _) (fun _ _ _ _ => rfl) ⟨⟨bs, cs, c1, c2, rfl, rfl, p1, q1⟩, List.nodup_append.2 ⟨p2, q2, fun a ha b hb hab => d a ha (hab ▸ hb)⟩, fun c hc => ?_⟩ fun c hc => ?_
  · rcases List.mem_append.1 hc with hc | hc
    · exact p3 c hc
    · exact q3 c hc
  · rcases List.mem_append.1 hc with hc | hc
    · exact .inl hc
    · exact .inr (.inl hc)

/-! ### Variables -/

theorem Wl.new {cells : List Value} {ty : TypeId} (h : Loc H0 L H) (k : ∀ H' b, Loc H0 (.box b cells :: L) H' → K (pt b 0) H') : W.new cells ty H K :=
  Wi.new fun H' l n hb => k H' _ (h.cons l (bs := [H.next]) ⟨rfl, by omega, ty, _, hb⟩ fun b hb => by simp at hb; omega)

theorem Wl.box {cs : List Value} {ty : TypeId} (h : Loc H0 L H) (k : ∀ H' b, Loc H0 (.box b cs :: L) H' → K (pt b 0) H') : W.box (.agg cs.toArray) ty H K :=
  Wi.box fun H' l n hb => k H' _ (h.cons l (bs := [H.next]) ⟨rfl, by omega, ty, _, hb⟩ fun b hb => by simp at hb; omega)

theorem Wl.box1 {v : Value} {ty : TypeId} (h : Loc H0 L H) (hc : isCell v = true) (k : ∀ H' b, Loc H0 (.box b [v] :: L) H' → K (pt b 0) H') : W.box v ty H K :=
  Wi.box1 hc fun H' l n hb => k H' _ (h.cons l (bs := [H.next]) ⟨rfl, by omega, ty, _, hb⟩ fun b hb => by simp at hb; omega)

theorem Wl.get {b o : Nat} {cs : List Value} {v : Value} (h : Loc H0 L H) [RdB L b cs] (hv : cs[o]? = some v) (k : K v H) : W.get (pt b o) H K := by
  obtain ⟨_, kb, h1, rfl⟩ := h.bx (b := b)
  exact Wi.get h1 hv k

theorem Wl.getN {b o m : Nat} {cs vs : List Value} (h : Loc H0 L H) [RdB L b cs] (hv : (cs.drop o).take m = vs) (hl : o + m ≤ cs.length) (k : K (.agg vs.toArray) H) : W.getN m (pt b o) H K := by
  obtain ⟨_, kb, h1, rfl⟩ := h.bx (b := b)
  exact Wi.getN h1 hl (by rw [hv]; exact k)

theorem Wl.getA {b m : Nat} {cs : List Value} (h : Loc H0 L H) [RdB L b cs] (hl : cs.length = m) (k : K (.agg cs.toArray) H) : W.getN m (pt b 0) H K :=
  Wl.getN h (vs := cs) (by rw [List.drop_zero, List.take_of_length_le (by omega)]) (by omega) k

theorem Wl.put {b o i : Nat} {cs : List Value} {v : Value} (h : Loc H0 L H) [c : AtB L b cs i] [s : SetI L i (.box b (cs.set o v)) L'] (hc : isCell v = true) (ho : o < cs.length)
    (k : ∀ H', Loc H0 L' H' → K undef H') : W.put (pt b o) v H K := by
  obtain ⟨bs, ⟨rfl, h1, ty, e, h2⟩, _, u⟩ := h.upd c.get
  refine Wi.put h2 hc rfl ho fun H' w => k H' ?_
  rw [s.eq]
  exact u H' _ [b] (by rw [w.next]; exact Nat.le_refl _) (fun c _ hc => w.off c (by simpa using hc)) ⟨rfl, by rw [w.next]; exact h1, ty, e, w.here⟩ fun c hc => .inl hc

theorem Wl.putN {b o m i : Nat} {cs vs : List Value} (h : Loc H0 L H) [c : AtB L b cs i] [s : SetI L i (.box b (cs.take o ++ vs ++ cs.drop (o + m))) L'] (hs : vs.length = m) (hc : vs.all isCell = true) (ho : o + m ≤ cs.length)
    (k : ∀ H', Loc H0 L' H' → K undef H') : W.putN m (pt b o) (.agg vs.toArray) H K := by
  obtain ⟨bs, ⟨rfl, h1, ty, e, h2⟩, _, u⟩ := h.upd c.get
  refine Wi.putN h2 (by simpa using hs) (by simpa using hc) rfl ho fun H' w => k H' ?_
  rw [s.eq]
  exact u H' _ [b] (by rw [w.next]; exact Nat.le_refl _) (fun c _ hc => w.off c (by simpa using hc)) ⟨rfl, by rw [w.next]; exact h1, ty, e, w.here⟩ fun c hc => .inl hc

/-- A whole struct put into its variable. -/
theorem Wl.putA {b m i : Nat} {cs vs : List Value} (h : Loc H0 L H) [c : AtB L b cs i] [s : SetI L i (.box b vs) L'] (hl : cs.length = m) (hs : vs.length = m) (hc : vs.all isCell = true)
    (k : ∀ H', Loc H0 L' H' → K undef H') : W.putN m (pt b 0) (.agg vs.toArray) H K := by
  have e : cs.take 0 ++ vs ++ cs.drop (0 + m) = vs := by rw [List.take_zero, List.nil_append, List.drop_of_length_le (by omega), List.append_nil]
  have s' : SetI L i (.box b (cs.take 0 ++ vs ++ cs.drop (0 + m))) L' := ⟨by rw [e]; exact s.eq⟩
  exact Wl.putN h hs hc (by omega) k

/-! ### Reading slices -/

theorem Wl.lenH {α : Type} {r : Rd α} {v : Value} {xs : List α} (h : Has (Rd.slice r) H [v] xs) (k : K (.int .i64 xs.length) H) : W.len v H K := by
  obtain ⟨bs, h⟩ := h
  obtain ⟨p, e, g⟩ := Rd.slice_val h
  simp only [List.cons.injEq, and_true] at g
  rw [g]
  exact k

theorem Wl.len {α : Type} {r : Rd α} {v : Value} {xs : List α} (h : Loc H0 L H) [RdV L [v] (Rd.slice r) xs] (k : K (.int .i64 xs.length) H) : W.len v H K := Wl.lenH h.rd k

theorem Wl.at1H {α : Type} {r : Rd α} (hr : r.n = 1) {v : Value} {xs : List α} {i : Nat} {κ : IntKind} (h : Has (Rd.slice r) H [v] xs) (hi : i < xs.length) (k : ∀ u, Has r H [u] xs[i] → K u H) :
    W.indexAddr 1 v (.int κ i) H fun p H => W.get p H K := by
  obtain ⟨bs, h⟩ := h
  obtain ⟨b, o, e, kb, fs, q1, _, s⟩ := Rd.slice_at h hi
  obtain ⟨u, m, ru⟩ := s.one hr hi
  rw [q1]
  exact Wi.index hi (Wi.get s.blk m (k u ⟨_, ru⟩))

theorem Wl.atIntH {v : Value} {xs : List Int} {i : Nat} {κ : IntKind} (h : Has (Rd.slice Rd.int) H [v] xs) (hi : i < xs.length) (k : I64 xs[i] → K (.int .i64 xs[i]) H) : W.indexAddr 1 v (.int κ i) H fun p H => W.get p H K :=
  Wl.at1H rfl h hi fun u hu => by
    obtain ⟨_, _, hu, hx⟩ := hu
    simp only [List.cons.injEq, and_true] at hu
    subst hu
    exact k hx

theorem Wl.atInt {v : Value} {xs : List Int} {i : Nat} {κ : IntKind} (h : Loc H0 L H) [RdV L [v] (Rd.slice Rd.int) xs] (hi : i < xs.length) (k : I64 xs[i] → K (.int .i64 xs[i]) H) : W.indexAddr 1 v (.int κ i) H fun p H => W.get p H K :=
  Wl.atIntH h.rd hi k

theorem Wl.atBoolH {v : Value} {xs : List Bool} {i : Nat} {κ : IntKind} (h : Has (Rd.slice Rd.bool) H [v] xs) (hi : i < xs.length) (k : K (.bool xs[i]) H) : W.indexAddr 1 v (.int κ i) H fun p H => W.get p H K :=
  Wl.at1H rfl h hi fun u hu => by
    obtain ⟨_, _, hu⟩ := hu
    simp only [List.cons.injEq, and_true] at hu
    subst hu
    exact k

theorem Wl.at1 {α : Type} {r : Rd α} (hr : r.n = 1) {v : Value} {xs : List α} {i : Nat} {κ : IntKind} (h : Loc H0 L H) [RdV L [v] (Rd.slice r) xs] (hi : i < xs.length) (k : ∀ u, Has r H [u] xs[i] → K u H) :
    W.indexAddr 1 v (.int κ i) H fun p H => W.get p H K := Wl.at1H hr h.rd hi k

/-- An element of what was there is lent, too. -/
theorem Wl.atL {α : Type} {r : Rd α} (hr : r.n = 1) {v : Value} {xs : List α} {i j : Nat} {κ : IntKind} (h : Loc H0 L H) [c : AtV L [v] (.lent (Rd.slice r) [v] xs) j] (hi : i < xs.length) (k : ∀ u, Loc H0 (.lent r [u] xs[i] :: L) H → K u H) :
    W.indexAddr 1 v (.int κ i) H fun p H => W.get p H K := by
  obtain ⟨_, ⟨_, bs, h1, h2⟩, _⟩ := h.mem (List.mem_of_getElem? c.get)
  obtain ⟨b, o, e, kb, fs, q1, q2, s⟩ := Rd.slice_at h1 hi
  obtain ⟨u, m, ru⟩ := s.one hr hi
  rw [q1]
  refine Wi.index hi (Wi.get s.blk m (k u (h.cons (.refl _) (bs := []) ⟨rfl, fs i, ru, fun b hb => h2 b ?_⟩ fun b hb => by cases hb)))
  rw [q2, List.mem_cons, List.mem_flatMap]
  exact .inr ⟨i, by simpa using hi, hb⟩

/-- An element of more cells. -/
theorem Wl.atNH {α : Type} {r : Rd α} {m : Nat} (hr : r.n = m) {v : Value} {xs : List α} {i : Nat} {κ : IntKind} (h : Has (Rd.slice r) H [v] xs) (hi : i < xs.length) (k : ∀ cs, Has r H cs xs[i] → K (.agg cs.toArray) H) :
    W.indexAddr m v (.int κ i) H fun p H => W.getN m p H K := by
  subst hr
  obtain ⟨bs, h⟩ := h
  obtain ⟨b, o, e, kb, fs, q1, _, s⟩ := Rd.slice_at h hi
  rw [q1]
  exact Wi.index hi (Wi.getN s.blk (s.in hi) (k _ ⟨_, s.each i hi⟩))

/-! ### Slices that grow -/

theorem Loc.nilG {α : Type} (r : Rd α) (ty : TypeId) (h : Loc H0 L H) : Loc H0 (.grow r ty (.slice none 0 0) [] :: L) H :=
  h.cons (.refl _) (bs := []) (.inl ⟨rfl, rfl, rfl⟩) fun b hb => by cases hb

theorem grow_data {α : Type} {r : Rd α} {ty : TypeId} {v : Value} {xs : List α} {bs : List Nat} {n : Nat} (h : (Atom.grow (n := n) r ty v xs).P H bs) : (Atom.data (n := n) (Rd.slice r) [v] xs).P H bs := by
  rcases h with ⟨rfl, rfl, rfl⟩ | ⟨b, e, kb, fs, rfl, h2, rfl, h4, h5, s, _⟩
  · exact ⟨.inl ⟨rfl, rfl, .inl rfl⟩, List.nodup_nil, fun c hc => by cases hc⟩
  · exact ⟨.inr ⟨b, 0, e, kb, fs, rfl, rfl, s⟩, h4, h5⟩

theorem Loc.retG (h : Loc H0 L H) {α : Type} {r : Rd α} {ty : TypeId} {v : Value} {xs : List α} {i : Nat} (hi : L[i]? = some (.grow r ty v xs)) : Fresh (Rd.slice r) H0 [v] xs H := by
  obtain ⟨bs, p, h3⟩ := h.mem (List.mem_of_getElem? hi)
  obtain ⟨h1, h2, h4⟩ := grow_data p
  exact ⟨h.le, bs, h1, h2, h3, h4⟩

/-- A slice that a call has made, with all its room in use. -/
structure FreshG {α : Type} (r : Rd α) (ty : TypeId) (H : Heap) (v : Value) (xs : List α) (H' : Heap) : Prop where
  le : H.Le H'
  has : ∃ bs, (Atom.grow (n := H.next) r ty v xs).P H' bs ∧ ∀ c ∈ bs, H.next ≤ c

theorem FreshG.fresh {α : Type} {r : Rd α} {ty : TypeId} {v : Value} {xs : List α} (f : FreshG r ty H v xs H') : Fresh (Rd.slice r) H [v] xs H' := by
  obtain ⟨bs, p, h3⟩ := f.has
  obtain ⟨h1, h2, h4⟩ := grow_data p
  exact ⟨f.le, bs, h1, h2, h3, h4⟩

theorem Loc.mkG {α : Type} {r : Rd α} {ty : TypeId} {v : Value} {xs : List α} (h : Loc H0 L H) (f : FreshG r ty H v xs H') : Loc H0 (.grow r ty v xs :: L) H' := by
  obtain ⟨bs, p, h3⟩ := f.has
  exact h.cons f.le (bs := bs) p h3

theorem Loc.retGG (h : Loc H0 L H) {α : Type} {r : Rd α} {ty : TypeId} {v : Value} {xs : List α} {i : Nat} (hi : L[i]? = some (.grow r ty v xs)) : FreshG r ty H0 v xs H := by
  obtain ⟨bs, p, h3⟩ := h.mem (List.mem_of_getElem? hi)
  exact ⟨h.le, bs, p, h3⟩

/-- What has grown, as what was made. -/
theorem Loc.asData (h : Loc H0 L H) {α : Type} {r : Rd α} {ty : TypeId} {v : Value} {xs : List α} {i : Nat} (hi : L[i]? = some (.grow r ty v xs)) [m : SetI L i (.data (Rd.slice r) [v] xs) L'] : Loc H0 L' H := by
  rw [m.eq]
  exact h.as hi fun bs p => ⟨bs, grow_data p, fun c hc => hc⟩

theorem Gr.toG {α : Type} {r : Rd α} {ty : TypeId} {v : Value} {xs : List α} (g : Gr r ty H v xs H') : FreshG r ty H v xs H' := by
  refine ⟨g.le, ?_⟩
  rcases g.gr.shape with ⟨rfl, rfl⟩ | ⟨b, e, kb, fs, rfl, h1, h2, h3, h4, h5, h6, h7, h8, h9, h10, h11, h12⟩
  · exact ⟨[], .inl ⟨rfl, rfl, rfl⟩, fun c hc => by cases hc⟩
  · have f := Fresh.mk' (r := r) (e := e) (xs := xs) fs g.le h3 h4 h5 rfl (by omega) h2 (by omega) h10 h11 h12
    refine ⟨b :: (List.range xs.length).flatMap fs, .inr ⟨b, e, kb, fs, rfl, h1, rfl, ?_, ?_, ⟨h3, h4, by omega, h2, by omega, fun i hi => (h11 i hi).1⟩, h6, h7, h8, h9⟩, fun c hc => ?_⟩
    · refine List.nodup_cons.2 ⟨fun hm => ?_, List.pairwise_flatMap.2 ⟨fun i hi => (h11 i (by simpa using hi)).2.1, ?_⟩⟩
      · obtain ⟨i, hi, hc⟩ := List.mem_flatMap.1 hm
        exact ((h11 i (by simpa using hi)).2.2.1 _ hc).2 rfl
      · refine List.pairwise_iff_getElem.2 fun i j hi hj hij c hc d hd' hcd => ?_
        simp only [List.length_range] at hi hj
        simp only [List.getElem_range] at hc hd'
        subst hcd
        exact h12 i j hij hj c hc hd'
    · intro c hc kc hk
      rcases List.mem_cons.1 hc with rfl | hc
      · rw [h4] at hk; cases hk; exact h5
      · obtain ⟨i, hi, hc⟩ := List.mem_flatMap.1 hc
        exact (h11 i (by simpa using hi)).2.2.2 c hc kc hk
    · rcases List.mem_cons.1 hc with rfl | hc
      · exact h10
      · obtain ⟨i, hi, hc⟩ := List.mem_flatMap.1 hc
        exact ((h11 i (by simpa using hi)).2.2.1 c hc).1


end

end Go.Ab
