/- Bounds of products, elements by their default. No program here. -/
import Derived.Test.YtgdiebnokgnniaaGreatDoorZabG3
import Derived.Test.YtgdiebnokgnniaaGreatDoorZabG5
namespace Go.Ab

theorem mulA {x y : Int} {A B : Nat} (h1 : x.natAbs ≤ A) (h2 : y.natAbs ≤ B) : (x * y).natAbs ≤ A * B := by
  rw [Int.natAbs_mul]
  exact Nat.mul_le_mul h1 h2

theorem i64A {x : Int} {B : Nat} (h : x.natAbs ≤ B) (hB : B < 9223372036854775808) : I64 x := by unfold I64; omega

theorem subA {x y : Int} {A B : Nat} (h1 : x.natAbs ≤ A) (h2 : y.natAbs ≤ B) : (x - y).natAbs ≤ A + B := by omega
theorem addA {x y : Int} {A B : Nat} (h1 : x.natAbs ≤ A) (h2 : y.natAbs ≤ B) : (x + y).natAbs ≤ A + B := by omega
theorem negA {x : Int} {A : Nat} (h1 : x.natAbs ≤ A) : (-x).natAbs ≤ A := by omega
theorem quoA {x y : Int} {A : Nat} (h1 : x.natAbs ≤ A) : (x.tdiv y).natAbs ≤ A := Nat.le_trans (Int.natAbs_tdiv_le_natAbs x y) h1

theorem atD {a : List Int} {i : Nat} (hi : i < a.length) : a.getD i 0 = a[i] := by simp [List.getD_eq_getElem?_getD, List.getElem?_eq_getElem hi]
theorem rowD {m : List (List Int)} {i : Nat} (hi : i < m.length) : m.getD i [] = m[i] := by simp [List.getD_eq_getElem?_getD, List.getElem?_eq_getElem hi]

theorem pow200 {i : Nat} (h : i ≤ 5) : 200 ^ i ≤ 320000000000 := Nat.pow_le_pow_right (n := 200) (j := 5) (by decide) h
theorem pow200' {i : Nat} (h : i ≤ 4) : 200 ^ i ≤ 1600000000 := Nat.pow_le_pow_right (n := 200) (j := 4) (by decide) h

end Go.Ab
/-! Rows whose slice is sliced, and whose headers change places. No program here. -/
namespace Go.Ab

/-- Rows, and that their block's elements are of one cell. -/
def Atom.rowsE {n : Nat} {α : Type} (r : Rd α) (v : Value) (us : List Value) (xs : List α) : Atom n where
  P := fun H bs => (Atom.rows (n := n) r v us xs).P H bs ∧ (xs = [] ∨ ∃ b o e kb, v = .slice (some (adr b o)) xs.length e ∧ b ∈ bs ∧ H.blk b = some kb ∧ kb.esz = 1)
  low := fun h => (Atom.rows (n := n) r v us xs).low h.1
  frame := fun h hn hl hb => ⟨(Atom.rows (n := n) r v us xs).frame h.1 hn hl hb, h.2.imp id fun ⟨b, o, e, kb, h1, h2, h3, h4⟩ => ⟨b, o, e, kb, h1, h2, by rw [hb b (.inr h2)]; exact h3, h4⟩⟩

section
variable {n : Nat}
instance {α : Type} {r : Rd α} {v : Value} {us : List Value} {xs : List α} {L : List (Atom n)} : AtV (.rowsE r v us xs :: L) [v] (.rowsE r v us xs) 0 := ⟨rfl⟩
instance {α : Type} {r : Rd α} {v : Value} {us : List Value} {xs : List α} {L : List (Atom n)} : RdV (.rowsE r v us xs :: L) [v] (Rd.slice r) xs := ⟨_, List.mem_cons_self, fun _ _ h => ⟨_, h.1.1⟩⟩
end

theorem rowsE_elem {n : Nat} {α : Type} {r : Rd α} (hr : r.n = 1) {H : Heap} {bs : List Nat} {v : Value} {us : List Value} {xs : List α} (h : (Atom.rowsE (n := n) r v us xs).P H bs) {a : Nat} (ha : a < xs.length) :
    ∃ u fi, us[a]? = some u ∧ (∃ b o e kb, v = .slice (some (adr b o)) xs.length e ∧ H.blk b = some kb ∧ kb.cells[o + a * 1]? = some u) ∧ r.rel H fi [u] xs[a] ∧ RW H fi ∧ (∀ c ∈ fi, c ∈ bs) ∧
      ∀ H' y, Marked r H fi [u] y H' → (Atom.rowsE (n := n) r v us (xs.set a y)).P H' bs ∧ Marked (Rd.slice r) H bs [v] (xs.set a y) H' := by
  obtain ⟨⟨h1, h2, h3, h4, h5⟩, hE⟩ := h
  obtain ⟨b, o, e, kb, fs, q1, q2, s⟩ := Rd.slice_at h1 ha
  obtain ⟨u, hu, hru⟩ := s.one hr ha
  have hbn := List.nodup_cons.1 (q2 ▸ h2)
  have hmem : ∀ j, j < xs.length → ∀ c ∈ fs j, c ∈ bs := fun j hj c hc => by rw [q2]; exact List.mem_cons_of_mem _ (List.mem_flatMap.2 ⟨j, by simpa using hj, hc⟩)
  have hnb : ∀ j, j < xs.length → b ∉ fs j := fun j hj hc => hbn.1 (List.mem_flatMap.2 ⟨j, by simpa using hj, hc⟩)
  refine ⟨u, fs a, ?_, ⟨b, o, e, kb, q1, s.blk, hu⟩, hru, fun c hc => h3 c (hmem a ha c hc), hmem a ha, fun H' y m => ?_⟩
  · rw [← h5 a ha, q1]
    simp only [headAt, s.blk, Option.bind_some]
    rw [← Nat.mul_one a]
    exact hu
  · have hbk : H'.blk b = some kb := by rw [m.off b s.lt (hnb a ha)]; exact s.blk
    have mk : Marked (Rd.slice r) H bs [v] (xs.set a y) H' := by
      refine ⟨m.next, .inr ⟨b, o, e, kb, fs, by rw [q2, List.length_set], by rw [List.length_set]; first | done | rw [q1], ⟨Nat.lt_of_lt_of_le s.lt m.next, hbk, by rw [List.length_set]; exact s.cap, by rw [List.length_set]; exact s.small, by
          rw [List.length_set]; exact s.room, fun j hj => ?_⟩⟩, fun c hc hcb => m.off c hc fun h => hcb (hmem a ha c h), fun c hc kc hk => ?_⟩
      · rw [List.length_set] at hj
        by_cases hij : a = j
        · subst hij
          have e1 : cellsAt r.n kb.cells o a = [u] := by
            have hin := s.in ha
            rw [hr] at hin ⊢
            rw [cellsAt_one (by omega)]
            rw [List.getElem?_eq_getElem (by omega)] at hu
            simpa using hu
          rw [e1]
          simp only [List.getElem_set_self]
          exact m.rel
        · rw [List.getElem_set_ne hij]
          refine r.frame (s.each j hj) m.next fun c hc => m.off c (r.low (s.each j hj) c hc) fun hci => ?_
          exact (flat_nodup hbn.2 ha hj).2 hij c hci hc
      · by_cases hci : c ∈ fs a
        · exact m.rw c hci kc hk
        · rw [m.off c ((Rd.slice r).low h1 c hc) hci] at hk
          exact h3 c hc kc hk
    refine ⟨⟨⟨mk.rel, h2, mk.rw, by rw [List.length_set]; exact h4, fun i hi => ?_⟩, ?_⟩, mk⟩
    · rw [List.length_set] at hi
      rw [← h5 i hi, q1]
      simp only [headAt, hbk, s.blk]
    · rcases hE with h | ⟨b2, o2, e2, kb2, g1, g2, g3, g4⟩
      · rw [h] at ha; simp at ha
      · rw [q1] at g1
        simp only [Value.slice.injEq, Option.some.injEq, Addr.mk.injEq] at g1
        obtain ⟨⟨rfl, rfl, _⟩, _, rfl⟩ := g1
        rw [s.blk] at g3
        cases g3
        exact .inr ⟨b, o, e, kb, by rw [List.length_set, q1], g2, hbk, g4⟩

section
variable {H0 H H' : Heap} {L L' L2 : List (Atom H0.next)} {K : Post}

/-- The headers of rows that have grown. -/
theorem Loc.headsE (h : Loc H0 L H) {α : Type} {r : Rd α} (hr : r.n = 1) {ty : TypeId} {v : Value} {xs : List α} {i : Nat} {M : List Value → List (Atom H0.next)} (hi : L[i]? = some (.grow r ty v xs)) [m : ∀ us, SetI L i (.rowsE r v us xs) (M us)] : ∃ us, us.length = xs.length ∧ Loc H0 (M us) H := by
  obtain ⟨bs, p, _, k⟩ := h.upd hi
  have d := grow_data p
  obtain ⟨h1, h2, h3⟩ := d
  have : ∃ us : List Value, us.length = xs.length ∧ ∀ i, i < xs.length → headAt H v i = us[i]? := by
    rcases Nat.eq_zero_or_pos xs.length with h0 | h0
    · exact ⟨[], h0.symm, fun i hi => by omega⟩
    · obtain ⟨b, o, e, kb, fs, q1, q2, s⟩ := Rd.slice_at h1 h0
      have hroom := s.room
      rw [hr] at hroom
      refine ⟨(kb.cells.drop o).take xs.length, by simp; omega, fun i hi => ?_⟩
      rw [q1]
      simp only [headAt, s.blk, Option.bind_some]
      rw [List.getElem?_take, if_pos hi, List.getElem?_drop]
  obtain ⟨us, g1, g2⟩ := this
  have hE : xs = [] ∨ ∃ b o e kb, v = .slice (some (adr b o)) xs.length e ∧ b ∈ bs ∧ H.blk b = some kb ∧ kb.esz = 1 := by
    rcases p with ⟨_, h, _⟩ | ⟨b, e, kb, fs, q1, _, q3, _, _, s, _, q8, _⟩
    · exact .inl h
    · exact .inr ⟨b, 0, e, kb, q1, by rw [q3]; simp, s.blk, by rw [q8, hr]⟩
  exact ⟨us, g1, by rw [(m us).eq]; exact k H _ bs (Nat.le_refl _) (fun _ _ _ => rfl) ⟨⟨h1, h2, h3, g1, g2⟩, hE⟩ fun c hc => .inl hc⟩

theorem Loc.unrowsE (h : Loc H0 L H) {α : Type} {r : Rd α} {v : Value} {us : List Value} {xs : List α} {i : Nat} (hi : L[i]? = some (.rowsE r v us xs)) [m : SetI L i (.data (Rd.slice r) [v] xs) L'] : Loc H0 L' H := by
  rw [m.eq]
  exact h.as hi fun bs p => ⟨bs, ⟨p.1.1, p.1.2.1, p.1.2.2.1⟩, fun c hc => hc⟩

theorem Loc.rowE {α : Type} {r : Rd α} (hr : r.n = 1) {v u : Value} {us : List Value} {xs : List α} {a j : Nat} (h : Loc H0 L H) (hj : L[j]? = some (.rowsE r v us xs)) (hu : us[a]? = some u) (ha : a < xs.length) : Has r H [u] xs[a] := by
  obtain ⟨bs, p, _⟩ := h.mem (List.mem_of_getElem? hj)
  obtain ⟨u', fi, h1, _, h5, _⟩ := rowsE_elem hr p ha
  rw [hu] at h1
  cases h1
  exact ⟨_, h5⟩

theorem Wl.atRowE {α : Type} {r : Rd α} (hr : r.n = 1) {v : Value} {us : List Value} {xs : List α} {a j : Nat} {κ : IntKind} (h : Loc H0 L H) [c : AtV L [v] (.rowsE r v us xs) j] (ha : a < xs.length) (k : ∀ u, us[a]? = some u → Has r H [u] xs[a] → K u H) :
    W.indexAddr 1 v (.int κ a) H fun p H => W.get p H K := by
  obtain ⟨bs, p, _⟩ := h.mem (List.mem_of_getElem? c.get)
  obtain ⟨u, fi, h1, ⟨b, o, e, kb, rfl, h3, h4⟩, h5, _⟩ := rowsE_elem hr p ha
  exact Wi.index ha (Wi.get h3 h4 (k u h1 ⟨_, h5⟩))

/-- One number of a row, written. -/
theorem Wl.rowSetE {v u : Value} {us : List Value} {xs : List (List Int)} {a i j : Nat} {y : Int} {κ : IntKind} (h : Loc H0 L H) (hj : L[j]? = some (.rowsE (Rd.slice Rd.int) v us xs)) (hu : us[a]? = some u) (ha : a < xs.length) (hi : i < xs[a].length) (hy : I64 y)
    [s : SetI L j (.rowsE (Rd.slice Rd.int) v us (xs.set a (xs[a].set i y))) L'] (k : ∀ H', Loc H0 L' H' → K undef H') : W.indexAddr 1 u (.int κ i) H fun p H => W.put p (.int .i64 y) H K := by
  obtain ⟨bs, p, _, up⟩ := h.upd hj
  obtain ⟨u', fi, h1, _, h5, h7, h8, h9⟩ := rowsE_elem rfl p ha
  rw [hu] at h1
  cases h1
  refine Wi.setInt h5 h7 hi hy fun H' m => k H' ?_
  obtain ⟨g1, g2⟩ := h9 H' _ m
  rw [s.eq]
  exact up H' _ bs g2.next (fun c hc hcb => g2.off c hc hcb) g1 fun c hc => .inl hc

/-- What is left of a slice from its place l on. -/
def SubOf (v w : Value) (l n : Nat) : Prop := (l = n ∧ ∃ a e, w = .slice a 0 e) ∨ ∃ b o e e', v = .slice (some (adr b o)) n e ∧ w = .slice (some (adr b (o + l))) (n - l) e' ∧ l < n ∧ 2 * (n - l) ≤ e'

theorem Wl.subE {α : Type} {r : Rd α} {v : Value} {us : List Value} {xs : List α} {l j : Nat} {κ : IntKind} (h : Loc H0 L H) [c : AtV L [v] (.rowsE r v us xs) j] (hl : l ≤ xs.length) (h0 : 0 < xs.length) (k : ∀ w, SubOf v w l xs.length → K w H) :
    W.slice 1 v (some (.int κ l)) none H K := by
  obtain ⟨bs, ⟨⟨h1, _⟩, hE⟩, _⟩ := h.mem (List.mem_of_getElem? c.get)
  obtain ⟨b, o, e, kb, fs, q1, q2, s⟩ := Rd.slice_at h1 h0
  have hcap := s.cap
  have hesz : kb.esz = 1 := by
    rcases hE with h | ⟨b2, o2, e2, kb2, g1, g2, g3, g4⟩
    · rw [h] at h0; simp at h0
    · rw [q1] at g1
      simp only [Value.slice.injEq, Option.some.injEq, Addr.mk.injEq] at g1
      obtain ⟨⟨rfl, rfl, _⟩, _, rfl⟩ := g1
      rw [s.blk] at g3
      cases g3
      exact g4
  rw [q1] at k ⊢
  unfold W.slice
  refine ⟨by omega, by omega, by omega, ?_⟩
  simp only [Int.toNat_natCast]
  by_cases e1 : l = e / 2
  · rw [if_pos e1]
    split
    · exact k _ (.inl ⟨by omega, _, _, rfl⟩)
    · exact k _ (.inl ⟨by omega, _, _, rfl⟩)
  · rw [if_neg e1]
    by_cases e2 : l = 0
    · rw [if_pos e2]
      subst e2
      exact k _ (.inr ⟨b, o, e, e, rfl, rfl, h0, by omega⟩)
    · rw [if_neg e2]
      simp only [s.blk]
      refine ⟨hesz, ?_⟩
      rw [adr_add, Nat.mul_one]
      by_cases e3 : l = xs.length
      · subst e3
        rw [Nat.sub_self]
        exact k _ (.inl ⟨rfl, _, _, rfl⟩)
      · exact k _ (.inr ⟨b, o, e, _, rfl, rfl, by omega, by omega⟩)

theorem Wi.lenSub {v w : Value} {l n : Nat} (h : SubOf v w l n) (k : K (.int .i64 ((n - l : Nat) : Int)) H) : W.len w H K := by
  rcases h with ⟨rfl, a, e, rfl⟩ | ⟨b, o, e, e', _, rfl, _⟩
  · rw [Nat.sub_self] at k
    exact Wi.len k
  · exact Wi.len k

/-- A row through such a slice. -/
theorem Wl.atSubE {α : Type} {r : Rd α} (hr : r.n = 1) {v w : Value} {us : List Value} {xs : List α} {l a j : Nat} {κ : IntKind} (h : Loc H0 L H) [c : AtV L [v] (.rowsE r v us xs) j] (hs : SubOf v w l xs.length) (ha : l + a < xs.length) (k : ∀ u, us[l + a]? = some u → Has r H [u] xs[l + a] → K u H) :
    W.indexAddr 1 w (.int κ a) H fun p H => W.get p H K := by
  obtain ⟨bs, p, _⟩ := h.mem (List.mem_of_getElem? c.get)
  obtain ⟨u, fi, h1, ⟨b, o, e, kb, rfl, h3, h4⟩, h5, _⟩ := rowsE_elem hr p ha
  rcases hs with ⟨h, _⟩ | ⟨b2, o2, e2, e', g1, rfl, g3, g4⟩
  · omega
  · simp only [Value.slice.injEq, Option.some.injEq, Addr.mk.injEq] at g1
    obtain ⟨⟨rfl, rfl, _⟩, _, rfl⟩ := g1
    refine Wi.index (by omega) (Wi.get h3 ?_ (k u h1 ⟨_, h5⟩))
    rw [← h4]
    congr 1
    omega

end

/-- Rows whose block of headers is being written: it holds us', while the rows are those under us. -/
def Atom.rowsX {n : Nat} {α : Type} (r : Rd α) (v : Value) (us : List Value) (xs : List α) (us' : List Value) : Atom n where
  P := fun H bs => us'.length = xs.length ∧ ∃ c o e kb fs, v = .slice (some (adr c o)) xs.length e ∧ bs = c :: (List.range xs.length).flatMap fs ∧ bs.Nodup ∧ RW H bs ∧ c < H.next ∧ H.blk c = some kb ∧ kb.esz = 1 ∧ 2 * xs.length ≤ e ∧ xs.length < 9223372036854775808 ∧
    o + xs.length ≤ kb.cells.length ∧ (∀ i (hi : i < xs.length), ∃ u, us[i]? = some u ∧ r.rel H (fs i) [u] xs[i]) ∧ ∀ i, i < xs.length → kb.cells[o + i]? = us'[i]?
  low := by
    rintro H bs ⟨_, c, o, e, kb, fs, _, rfl, _, _, h5, _, _, _, _, _, h11, _⟩ d hd
    rcases List.mem_cons.1 hd with rfl | hd
    · exact h5
    · obtain ⟨i, hi, hd⟩ := List.mem_flatMap.1 hd
      obtain ⟨u, _, hr⟩ := h11 i (by simpa using hi)
      exact r.low hr d hd
  frame := by
    rintro H H' bs ⟨h0, c, o, e, kb, fs, h1, rfl, h3, h4, h5, h6, h7, h8, h9, h10, h11, h12⟩ _ hl hb
    refine ⟨h0, c, o, e, kb, fs, h1, rfl, h3, fun d hd kd hk => h4 d hd kd (by rw [← hb d (.inr hd)]; exact hk), Nat.lt_of_lt_of_le h5 hl, by rw [hb c (.inr (by simp))]; exact h6, h7, h8, h9, h10, fun i hi => ?_, h12⟩
    obtain ⟨u, hu, hr⟩ := h11 i hi
    exact ⟨u, hu, r.frame hr hl fun d hd => hb d (.inr (List.mem_cons_of_mem _ (List.mem_flatMap.2 ⟨i, by simpa using hi, hd⟩)))⟩

section
variable {H0 H H' : Heap} {L L' L2 : List (Atom H0.next)} {K : Post}

theorem Loc.loose (h : Loc H0 L H) {α : Type} {r : Rd α} (hr : r.n = 1) {v : Value} {us : List Value} {xs : List α} {j : Nat} (hj : L[j]? = some (.rowsE r v us xs)) (h0 : 0 < xs.length) [s : SetI L j (.rowsX r v us xs us) L'] : Loc H0 L' H := by
  rw [s.eq]
  refine h.as hj fun bs p => ⟨bs, ?_, fun c hc => hc⟩
  obtain ⟨⟨h1, h2, h3, h4, h5⟩, hE⟩ := p
  obtain ⟨c, o, e, kb, fs, q1, q2, sl⟩ := Rd.slice_at h1 h0
  have hesz : kb.esz = 1 := by
    rcases hE with h | ⟨b2, o2, e2, kb2, g1, g2, g3, g4⟩
    · rw [h] at h0; simp at h0
    · rw [q1] at g1
      simp only [Value.slice.injEq, Option.some.injEq, Addr.mk.injEq] at g1
      obtain ⟨⟨rfl, rfl, _⟩, _, rfl⟩ := g1
      rw [sl.blk] at g3
      cases g3
      exact g4
  have hroom := sl.room
  rw [hr, Nat.mul_one] at hroom
  have head : ∀ i, i < xs.length → kb.cells[o + i]? = us[i]? := fun i hi => by
    have := h5 i hi
    rw [q1] at this
    simp only [headAt, sl.blk, Option.bind_some] at this
    exact this
  refine ⟨h4, c, o, e, kb, fs, q1, q2, h2, h3, sl.lt, sl.blk, hesz, sl.cap, sl.small, hroom, fun i hi => ?_, head⟩
  have := sl.each i hi
  rw [hr, cellsAt_one (by omega)] at this
  have e1 := head i hi
  rw [List.getElem?_eq_getElem (by omega)] at e1
  refine ⟨kb.cells[o + i], e1.symm, ?_⟩
  simp only [Nat.mul_one] at this
  exact this

/-- A header is written. -/
theorem Wl.putX {α : Type} {r : Rd α} {v u : Value} {us us' : List Value} {xs : List α} {a j : Nat} {κ : IntKind} (h : Loc H0 L H) (hj : L[j]? = some (.rowsX r v us xs us')) (ha : a < xs.length) (hu : isCell u = true) [s : SetI L j (.rowsX r v us xs (us'.set a u)) L'] (k : ∀ H', Loc H0 L' H' → K undef H') :
    W.indexAddr 1 v (.int κ a) H fun p H => W.put p u H K := by
  obtain ⟨bs, ⟨g0, c, o, e, kb, fs, g1, rfl, g3, g4, g5, g6, g7, g8, g9, g10, g11, g12⟩, _, up⟩ := h.upd hj
  have hbn := List.nodup_cons.1 g3
  have hnb : ∀ i, i < xs.length → c ∉ fs i := fun i hi hc => hbn.1 (List.mem_flatMap.2 ⟨i, by simpa using hi, hc⟩)
  refine Wi.indexE g1 ha ?_
  rw [Nat.mul_one]
  refine Wi.put g6 hu (g4 c (by simp) kb g6) (by omega) fun H' w => k H' ?_
  rw [s.eq]
  refine up H' _ (c :: (List.range xs.length).flatMap fs) (by rw [w.next]; exact Nat.le_refl _) (fun d hd hdb => w.off d fun e => hdb (by simp [e])) ⟨by rw [List.length_set]; exact g0, c, o, e, _, fs, g1, rfl, g3, fun d hd kd hk => ?_, by rw [w.next]; exact g5, w.here, g7, g8, g9, by simp; exact g10, fun i hi => ?_, fun i hi => ?_⟩ fun d hd => .inl hd
  · by_cases e1 : d = c
    · subst e1
      rw [w.here] at hk
      cases hk
      exact g4 d (by simp) kb g6
    · rw [w.off d e1] at hk
      exact g4 d hd kd hk
  · obtain ⟨u2, hu2, hr⟩ := g11 i hi
    exact ⟨u2, hu2, r.frame hr (by rw [w.next]; exact Nat.le_refl _) fun d hd => w.off d fun e => hnb i hi (e ▸ hd)⟩
  · by_cases e1 : i = a
    · subst e1
      rw [List.getElem?_set_self (by omega), List.getElem?_set_self (by omega)]
    · rw [List.getElem?_set_ne (by omega), List.getElem?_set_ne (fun e => e1 e.symm)]
      exact g12 i hi

/-- Two headers have changed places. -/
theorem Loc.tight (h : Loc H0 L H) {α : Type} {r : Rd α} (hr : r.n = 1) {v ua ub : Value} {us : List Value} {xs : List α} {a b j : Nat} (hj : L[j]? = some (.rowsX r v us xs ((us.set a ub).set b ua))) (ha : a < xs.length) (hb : b < xs.length) (hab : a ≠ b) (hua : us[a]? = some ua) (hub : us[b]? = some ub) (hul : us.length = xs.length)
    [s : SetI L j (.rowsE r v ((us.set a ub).set b ua) ((xs.set a xs[b]).set b xs[a])) L'] : Loc H0 L' H := by
  rw [s.eq]
  refine h.as hj ?_
  rintro bs ⟨g0, c, o, e, kb, fs, g1, rfl, g3, g4, g5, g6, g7, g8, g9, g10, g11, g12⟩
  have hbn := List.nodup_cons.1 g3
  have hlen : ((xs.set a xs[b]).set b xs[a]).length = xs.length := by simp
  have hgs : ∀ i, i < xs.length → (if i = a then b else if i = b then a else i) < xs.length := fun i hi => by split <;> (try split) <;> omega
  have hmem : ∀ j, j < xs.length → ∀ d ∈ fs j, d ∈ c :: (List.range xs.length).flatMap fs := fun j hj d hd => List.mem_cons_of_mem _ (List.mem_flatMap.2 ⟨j, by simpa using hj, hd⟩)
  have hsub : ∀ d ∈ c :: (List.range xs.length).flatMap (fun i => fs (if i = a then b else if i = b then a else i)), d ∈ c :: (List.range xs.length).flatMap fs := fun d hd => by
    rcases List.mem_cons.1 hd with rfl | hd
    · simp
    · obtain ⟨i, hi, hd⟩ := List.mem_flatMap.1 hd
      exact hmem _ (hgs i (by simpa using hi)) d hd
  refine ⟨c :: (List.range xs.length).flatMap fun i => fs (if i = a then b else if i = b then a else i), ⟨⟨?_, ?_, fun d hd => g4 d (hsub d hd), by rw [g0, hlen], ?_⟩, .inr ⟨c, o, e, kb, by rw [hlen]; exact g1, by simp, g6, g7⟩⟩, hsub⟩
  · refine .inr ⟨c, o, e, kb, fun i => fs (if i = a then b else if i = b then a else i), by rw [hlen], by rw [hlen, g1], ⟨g5, g6, by rw [hlen]; exact g8, by rw [hlen]; exact g9, by rw [hlen, hr, Nat.mul_one]; exact g10, fun i hi => ?_⟩⟩
    have hi' : i < xs.length := by rw [hlen] at hi; exact hi
    rw [hr, cellsAt_one (by omega)]
    have e1 := g12 i hi'
    rw [List.getElem?_eq_getElem (by omega)] at e1
    simp only [Nat.mul_one]
    by_cases q1 : i = b
    · subst q1
      rw [List.getElem?_set_self (by simp; omega)] at e1
      simp only [Option.some.injEq] at e1
      rw [e1]
      simp only [List.getElem_set_self, if_true]
      rw [show (if i = a then i else a) = a from if_neg fun e => hab e.symm]
      obtain ⟨u, h1, h2⟩ := g11 a ha
      rw [hua] at h1
      cases h1
      exact h2
    · rw [List.getElem?_set_ne (fun e => q1 e.symm)] at e1
      rw [List.getElem_set_ne (fun e => q1 e.symm)]
      by_cases q2 : i = a
      · subst q2
        rw [List.getElem?_set_self (by omega)] at e1
        simp only [Option.some.injEq] at e1
        rw [e1]
        simp only [List.getElem_set_self, if_true]
        obtain ⟨u, h1, h2⟩ := g11 b hb
        rw [hub] at h1
        cases h1
        exact h2
      · rw [List.getElem?_set_ne (fun e => q2 e.symm)] at e1
        rw [List.getElem_set_ne (fun e => q2 e.symm), if_neg q2, if_neg q1]
        obtain ⟨u, h1, h2⟩ := g11 i hi'
        rw [h1] at e1
        cases e1
        exact h2
  · refine List.nodup_cons.2 ⟨fun hm => ?_, List.pairwise_flatMap.2 ⟨fun i hi => ?_, ?_⟩⟩
    · obtain ⟨i, hi, hc⟩ := List.mem_flatMap.1 hm
      exact hbn.1 (List.mem_flatMap.2 ⟨_, by simpa using hgs i (by simpa using hi), hc⟩)
    · have := hgs i (by simpa using hi)
      exact (flat_nodup hbn.2 this this).1
    · refine List.pairwise_iff_getElem.2 fun i m hi hm him d hd d' hd' hdd => ?_
      simp only [List.length_range] at hi hm
      simp only [List.getElem_range] at hd hd'
      subst hdd
      refine (flat_nodup hbn.2 (hgs i hi) (hgs m hm)).2 ?_ d hd hd'
      split <;> split <;> (try split) <;> (try split) <;> omega
  · intro i hi
    rw [hlen] at hi
    rw [g1]
    simp only [headAt, g6, Option.bind_some]
    exact g12 i hi

/-- A row that was made is put in place of one. -/
theorem Wl.putRowE {α : Type} {r : Rd α} (hr : r.n = 1) {v u : Value} {us : List Value} {xs : List α} {y : α} {a i j : Nat} {κ : IntKind} {L1 : List (Atom H0.next)} (h : Loc H0 L H) [c : AtV L [v] (.rowsE r v us xs) i] [d : AtV L [u] (.data r [u] y) j] (ha : a < xs.length)
    [s : SetI L i (.rowsE r v (us.set a u) (xs.set a y)) L1] [s2 : SetI L1 j .emp L'] (hij : i ≠ j) (k : ∀ H', Loc H0 L' H' → K undef H') : W.indexAddr 1 v (.int κ a) H fun p H => W.put p u H K := by
  obtain ⟨bs, cs, ⟨⟨h1, h2, h3, h4, h5⟩, hE⟩, ⟨q1, q2, q3⟩, hd, _, _, up⟩ := h.upd2 c.get d.get hij
  obtain ⟨b, o, e, kb, fs, g1, g2, sl⟩ := Rd.slice_at h1 ha
  have hbn := List.nodup_cons.1 (g2 ▸ h2)
  have hmem : ∀ j, j < xs.length → ∀ c ∈ fs j, c ∈ bs := fun j hj c hc => by rw [g2]; exact List.mem_cons_of_mem _ (List.mem_flatMap.2 ⟨j, by simpa using hj, hc⟩)
  have hnb : ∀ j, j < xs.length → b ∉ fs j := fun j hj hc => hbn.1 (List.mem_flatMap.2 ⟨j, by simpa using hj, hc⟩)
  have hbb : b ∈ bs := by rw [g2]; simp
  have hbc : b ∉ cs := hd b hbb
  have hro : kb.ro = false := h3 b hbb kb sl.blk
  have hesz : kb.esz = 1 := by
    rcases hE with h | ⟨b2, o2, e2, kb2, e1, e2', e3, e4⟩
    · rw [h] at ha; simp at ha
    · rw [g1] at e1
      simp only [Value.slice.injEq, Option.some.injEq, Addr.mk.injEq] at e1
      obtain ⟨⟨rfl, rfl, _⟩, _, rfl⟩ := e1
      rw [sl.blk] at e3
      cases e3
      exact e4
  have hroom := sl.room
  rw [hr, Nat.mul_one] at hroom
  have head : ∀ i, i < xs.length → kb.cells[o + i]? = us[i]? := fun i hi => by
    have := h5 i hi
    rw [g1] at this
    simp only [headAt, sl.blk, Option.bind_some] at this
    exact this
  have each : ∀ i (hi : i < xs.length), r.rel H (fs i) [kb.cells[o + i]'(by omega)] xs[i] := fun i hi => by
    have := sl.each i hi
    rw [hr, cellsAt_one (by omega)] at this
    simpa using this
  refine Wi.indexE g1 ha ?_
  rw [Nat.mul_one]
  refine Wi.put sl.blk (by have := r.cell q1; simpa using this) hro (by omega) fun H' w => k H' ?_
  have hlen : (xs.set a y).length = xs.length := List.length_set
  have off : ∀ d, d ≠ b → H'.blk d = H.blk d := fun d hd => w.off d hd
  rw [s2.eq, s.eq]
  have hsub : ∀ d, d ∈ b :: (List.range xs.length).flatMap (fun i => if i = a then cs else fs i) → d ∈ bs ∨ d ∈ cs := fun d hd => by
    rcases List.mem_cons.1 hd with rfl | hd
    · exact .inl hbb
    · obtain ⟨i, hi, hd⟩ := List.mem_flatMap.1 hd
      split at hd
      · exact .inr hd
      · exact .inl (hmem i (by simpa using hi) d hd)
  refine up H' _ (b :: (List.range xs.length).flatMap fun i => if i = a then cs else fs i) (by rw [w.next]; exact Nat.le_refl _) (fun d hd hdb _ => off d fun e => hdb (by rw [e]; exact hbb)) ⟨⟨?_, ?_, ?_, by rw [List.length_set, hlen, h4], ?_⟩, ?_⟩ fun d hd => by
    rcases hsub d hd with h | h
    · exact .inl h
    · exact .inr (.inl h)
  · refine .inr ⟨b, o, e, _, fun i => if i = a then cs else fs i, by rw [hlen], by rw [hlen, g1], ⟨by rw [w.next]; exact sl.lt, w.here, by rw [hlen]; exact sl.cap, by rw [hlen]; exact sl.small, by rw [hlen, hr]; simp; omega, fun i hi => ?_⟩⟩
    have hi' : i < xs.length := by rw [hlen] at hi; exact hi
    rw [hr, cellsAt_one (by simp; omega)]
    simp only [Nat.mul_one]
    by_cases e1 : i = a
    · subst e1
      simp only [List.getElem_set_self, if_true]
      exact r.frame q1 (by rw [w.next]; exact Nat.le_refl _) fun d hd => off d fun e => hbc (e ▸ hd)
    · rw [List.getElem_set_ne (by omega), List.getElem_set_ne (fun e => e1 e.symm)]
      simp only [if_neg e1]
      exact r.frame (each i hi') (by rw [w.next]; exact Nat.le_refl _) fun d hd => off d fun e => hnb i hi' (e ▸ hd)
  · refine List.nodup_cons.2 ⟨fun hm => ?_, List.pairwise_flatMap.2 ⟨fun i hi => ?_, ?_⟩⟩
    · obtain ⟨i, hi, hc⟩ := List.mem_flatMap.1 hm
      split at hc
      · exact hbc hc
      · exact hnb i (by simpa using hi) hc
    · split
      · exact q2
      · exact (flat_nodup hbn.2 (by simpa using hi) ha).1
    · refine List.pairwise_iff_getElem.2 fun i m hi hm him d hdi d' hd' hdd => ?_
      simp only [List.length_range] at hi hm
      simp only [List.getElem_range] at hdi hd'
      subst hdd
      by_cases e1 : i = a
      · rw [if_pos e1] at hdi
        rw [if_neg (by omega)] at hd'
        exact hd d (hmem m hm d hd') hdi
      · rw [if_neg e1] at hdi
        by_cases e2 : m = a
        · rw [if_pos e2] at hd'
          exact hd d (hmem i hi d hdi) hd'
        · rw [if_neg e2] at hd'
          exact (flat_nodup hbn.2 hi hm).2 (by omega) d hdi hd'
  · intro d hd kd hk
    by_cases e1 : d = b
    · subst e1
      rw [w.here] at hk
      cases hk
      exact hro
    · rw [off d e1] at hk
      rcases hsub d hd with h | h
      · exact h3 d h kd hk
      · exact q3 d h kd hk
  · intro i hi
    rw [hlen] at hi
    rw [g1]
    simp only [headAt, w.here, Option.bind_some]
    by_cases e1 : i = a
    · subst e1
      rw [List.getElem?_set_self (by omega), List.getElem?_set_self (by omega)]
    · rw [List.getElem?_set_ne (by omega), List.getElem?_set_ne (fun e => e1 e.symm)]
      exact head i hi
  · exact .inr ⟨b, o, e, _, by rw [hlen, g1], by simp, w.here, hesz⟩

end
end Go.Ab

/-! Parts of slices; rows that may grow as elements; a number of a slice that may grow, written. No program here. -/
namespace Go.Ab

section
variable {H : Heap} {K : Post}

/-- The first k elements. -/
theorem Wl.cutLoH {α : Type} {r : Rd α} {m : Nat} {v : Value} {xs : List α} {k : Nat} {κ : IntKind} (h : Has (Rd.slice r) H [v] xs) (hk : k ≤ xs.length) (c : ∀ w, Has (Rd.slice r) H [w] (xs.take k) → K w H) : W.slice m v none (some (.int κ k)) H K := by
  obtain ⟨bs, h⟩ := h
  have nil : ∀ w : Value, xs.take k = [] → (w = .slice none 0 0 ∨ w = .slice none 0 1 ∨ ∃ a, w = .slice (some a) 0 0) → K w H := fun w e hw => c w ⟨[], .inl ⟨e, rfl, by
    rcases hw with h | h | ⟨a, h⟩
    · exact .inl (by rw [h])
    · exact .inr (.inl (by rw [h]))
    · exact .inr (.inr ⟨a, by rw [h]⟩)⟩⟩
  unfold W.slice
  rcases h with ⟨rfl, _, h⟩ | ⟨b, o, e, kb, fs, _, hv, s⟩
  · have hk0 : k = 0 := by simpa using hk
    subst hk0
    rcases h with h | h | ⟨a, h⟩
    · simp only [List.cons.injEq, and_true] at h
      subst h
      exact ⟨by omega, by omega, by omega, nil _ rfl (.inl rfl)⟩
    · simp only [List.cons.injEq, and_true] at h
      subst h
      exact ⟨by omega, by omega, by omega, nil _ rfl (.inr (.inl rfl))⟩
    · simp only [List.cons.injEq, and_true] at h
      subst h
      refine ⟨by omega, by omega, by omega, ?_⟩
      simp only [Int.toNat_zero, Nat.zero_div, if_true, Nat.zero_mod]
      exact nil _ rfl (.inr (.inr ⟨_, rfl⟩))
  · simp only [List.cons.injEq, and_true] at hv
    subst hv
    have hcap := s.cap
    refine ⟨by omega, by omega, by omega, ?_⟩
    simp only [Int.toNat_zero, Int.toNat_natCast]
    by_cases e1 : 0 = e / 2
    · rw [if_pos e1]
      have hx : xs.length = 0 := by omega
      have hx0 : xs.take k = [] := by rw [List.length_eq_zero_iff.1 hx]; simp
      split
      · exact nil _ hx0 (.inr (.inr ⟨_, rfl⟩))
      · exact nil _ hx0 (.inr (.inl rfl))
    · rw [if_neg e1]
      simp only [if_true]
      have hl : (xs.take k).length = k := by simp; omega
      refine c _ ⟨_, .inr ⟨b, o, e, kb, fs, rfl, by rw [hl], ⟨s.lt, s.blk, by rw [hl]; omega, by rw [hl]; have := s.small; omega, ?_, fun i hi => ?_⟩⟩⟩
      · rw [hl]
        have := Nat.mul_le_mul_right r.n hk
        have := s.room
        omega
      · have hi' : i < xs.length := by rw [hl] at hi; omega
        rw [List.getElem_take]
        exact s.each i hi'

/-- All from the k-th on. -/
theorem Wl.cutHiG {α : Type} {r : Rd α} {ty : TypeId} {m : Nat} (hm : r.n = m) {v : Value} {xs : List α} {k : Nat} {κ : IntKind} (h : Has (Rd.gslice r ty) H [v] xs) (hk : k ≤ xs.length) (c : ∀ w, Has (Rd.slice r) H [w] (xs.drop k) → K w H) : W.slice m v (some (.int κ k)) none H K := by
  subst hm
  obtain ⟨bs, w, hw, p⟩ := h
  simp only [List.cons.injEq, and_true] at hw
  subst hw
  have nil : ∀ w : Value, xs.drop k = [] → (w = .slice none 0 0 ∨ w = .slice none 0 1 ∨ ∃ a, w = .slice (some a) 0 0) → K w H := fun w e hw => c w ⟨[], .inl ⟨e, rfl, by
    rcases hw with h | h | ⟨a, h⟩
    · exact .inl (by rw [h])
    · exact .inr (.inl (by rw [h]))
    · exact .inr (.inr ⟨a, by rw [h]⟩)⟩⟩
  unfold W.slice
  rcases p with ⟨rfl, rfl, _⟩ | ⟨b, e, kb, fs, rfl, he, _, _, _, s, _, hesz, _, _⟩
  · have hk0 : k = 0 := by simpa using hk
    subst hk0
    exact ⟨by omega, by omega, by omega, nil _ rfl (.inl rfl)⟩
  · refine ⟨by omega, by omega, by omega, ?_⟩
    simp only [Int.toNat_natCast]
    by_cases e1 : k = e / 2
    · rw [if_pos e1]
      have hx0 : xs.drop k = [] := List.drop_of_length_le (by omega)
      split
      · exact nil _ hx0 (.inr (.inr ⟨_, rfl⟩))
      · exact nil _ hx0 (.inr (.inl rfl))
    · rw [if_neg e1]
      by_cases e2 : k = 0
      · subst e2
        rw [if_pos rfl]
        exact c _ ⟨_, .inr ⟨b, 0, e, kb, fs, rfl, by simp, s⟩⟩
      · rw [if_neg e2]
        simp only [s.blk]
        refine ⟨hesz, ?_⟩
        rw [adr_add, Nat.zero_add]
        have hl : (xs.drop k).length = xs.length - k := by simp
        refine c _ ⟨_, .inr ⟨b, k * r.n, e - 2 * k, kb, fun i => fs (k + i), rfl, by rw [hl], ⟨s.lt, s.blk, by rw [hl]; omega, by rw [hl]; have := s.small; omega, ?_, fun i hi => ?_⟩⟩⟩
        · rw [hl]
          have := s.room
          rw [Nat.zero_add] at this
          rw [← Nat.add_mul, show k + (xs.length - k) = xs.length by omega]
          exact this
        · have hi' : k + i < xs.length := by rw [hl] at hi; omega
          rw [List.getElem_drop]
          have := s.each (k + i) hi'
          have ec : cellsAt r.n kb.cells (k * r.n) i = cellsAt r.n kb.cells 0 (k + i) := by
            unfold cellsAt
            rw [Nat.zero_add, Nat.add_mul]
          rw [ec]
          exact this

end

theorem Has.ofG1 {α : Type} {r : Rd α} {ty : TypeId} {H : Heap} {cs : List Value} {xs : List α} (h : Has (Rd.gslice r ty) H cs xs) : Has (Rd.slice r) H cs xs := let ⟨bs, h⟩ := h; ⟨bs, gslice_slice h⟩

section
variable {H0 H H' H1 : Heap} {L L' : List (Atom H0.next)} {K : Post}

/-- What has grown, as an element of rows that may grow. -/
theorem Loc.asG (h : Loc H0 L H) {α : Type} {r : Rd α} {ty : TypeId} {v : Value} {xs : List α} {i : Nat} (hi : L[i]? = some (.grow r ty v xs)) [m : SetI L i (.data (Rd.gslice r ty) [v] xs) L'] : Loc H0 L' H := by
  rw [m.eq]
  exact h.as hi fun bs p => ⟨bs, ⟨⟨v, rfl, p⟩, (grow_data p).2.1, (grow_data p).2.2⟩, fun c hc => hc⟩

/-- A slice that has grown is appended as one element, and could still grow. -/
theorem Wl.pushGG {α : Type} {t : Rd α} {ty ty2 ty' : TypeId} {v u zv : Value} {x : List α} {xs : List (List α)} {i : Nat} [c : AtV L [v] (.grow (Rd.gslice t ty2) ty v xs) i] {L2 : Value → List (Atom H0.next)} [s : ∀ v', SetI L i (.grow (Rd.gslice t ty2) ty v' (xs ++ [x])) (L2 v')]
    (h : Loc H0 (.grow t ty2 u x :: L) H) (hlen : xs.length < 17179869184) (k : ∀ H' v', Loc H0 (L2 v') H' → K v' H') : W.lit 1 [zv] ty' [(0, 1, u)] H fun y H => W.append 1 ty v y H K := by
  have h1 := h.asG (i := 0) rfl
  have hcu : cellsA u = some [u] := Has.one (h1.rd (cs := [u])).ofG1
  have c' : AtV (Atom.data (Rd.gslice t ty2) [u] x :: L) [v] (.grow (Rd.gslice t ty2) ty v xs) (i + 1) := ⟨by simpa using c.get⟩
  have d' : AtV (Atom.data (Rd.gslice t ty2) [u] x :: L) [u] (.data (Rd.gslice t ty2) [u] x) 0 := ⟨rfl⟩
  have s' : ∀ v', SetI (Atom.data (Rd.gslice t ty2) [u] x :: L) (i + 1) (.grow (Rd.gslice t ty2) ty v' (xs ++ [x])) (Atom.data (Rd.gslice t ty2) [u] x :: L2 v') := fun v' => ⟨by rw [(s v').eq]; rfl⟩
  have s3 : ∀ v', SetI (Atom.data (Rd.gslice t ty2) [u] x :: L2 v') 0 .emp (.emp :: L2 v') := fun v' => ⟨rfl⟩
  exact Wl.pushO (L2 := fun v' => Atom.data (Rd.gslice t ty2) [u] x :: L2 v') (L3 := fun v' => .emp :: L2 v') rfl h1 (by omega) hcu hlen fun H' v' h' => k H' v' h'.tl

/-- One number of what has grown, written. -/
theorem Wl.setG {ty : TypeId} {v : Value} {xs : List Int} {i j : Nat} {y : Int} {κ : IntKind} (h : Loc H0 L H) [c : AtV L [v] (.grow Rd.int ty v xs) j] [s : SetI L j (.grow Rd.int ty v (xs.set i y)) L'] (hi : i < xs.length) (hy : I64 y) (k : ∀ H', Loc H0 L' H' → K undef H') :
    W.indexAddr 1 v (.int κ i) H fun p H => W.put p (.int .i64 y) H K := by
  obtain ⟨bs, p, _, up⟩ := h.upd c.get
  rcases p with ⟨_, rfl, _⟩ | ⟨b, e, kb, fs, rfl, h2, rfl, h4, h5, sl, h6, h7, h8, h9⟩
  · simp at hi
  · have hfs : ∀ j, j < xs.length → fs j = [] := fun j hj => (sl.each j hj).1
    have hroom : xs.length * 1 ≤ kb.cells.length := by have := sl.room; simpa [Rd.int] using this
    refine Wi.index hi ?_
    rw [Nat.zero_add, Nat.mul_one]
    refine Wi.put sl.blk rfl (h5 b (by simp) kb sl.blk) (by omega) fun H' w => k H' ?_
    rw [s.eq]
    refine up H' _ (b :: (List.range (xs.set i y).length).flatMap fs) (by rw [w.next]; exact Nat.le_refl _) (fun d hd hdb => w.off d fun e => hdb (by simp [e])) (.inr ⟨b, e, _, fs, by rw [List.length_set], by rw [List.length_set]; exact h2, rfl, ?_, fun d hd kd hk => ?_, ⟨by rw [w.next]; exact sl.lt, w.here, by rw [List.length_set]; exact sl.cap, by rw [List.length_set]; exact sl.small, ?_, fun j hj => ?_⟩, h6, h7, ?_, ?_⟩) fun d hd => .inl (by rw [List.length_set] at hd; exact hd)
    · rw [List.length_set]; exact h4
    · rw [List.length_set] at hd
      by_cases e1 : d = b
      · subst e1
        rw [w.here] at hk
        cases hk
        exact h5 d (by simp) kb sl.blk
      · rw [w.off d e1] at hk
        exact h5 d hd kd hk
    · simp only [List.length_set, Rd.int]
      omega
    · have hj' : j < xs.length := by rw [List.length_set] at hj; exact hj
      have h0 := sl.each j hj'
      simp only [Rd.int] at h0 ⊢
      rw [cellsAt_one (by omega)] at h0
      rw [cellsAt_one (by simp; omega)]
      obtain ⟨g1, g2, g3⟩ := h0
      refine ⟨g1, ?_⟩
      simp only [Nat.zero_add, Nat.mul_one] at g2 ⊢
      by_cases e1 : i = j
      · subst e1
        simp only [List.getElem_set_self]
        exact ⟨trivial, hy⟩
      · rw [List.getElem_set_ne e1, List.getElem_set_ne e1]
        exact ⟨g2, g3⟩
    · simp only [List.length_set]; exact h8
    · rw [List.all_eq_true] at h9 ⊢
      intro x hx
      rcases List.mem_or_eq_of_mem_set hx with g | g
      · exact h9 x g
      · rw [g]; rfl

end
end Go.Ab

/-! Copying numbers into a slice that all is in use. No program here. -/
namespace Go.Ab

section
variable {H0 H : Heap} {L L' : List (Atom H0.next)} {K : Post}

end
end Go.Ab

/-! Shifts and bits of numbers not less than 0. No program here. -/
namespace Go.Ab

theorem i64N {q m : Nat} (h : q ≤ m) (hm : m < 9223372036854775808) : I64 (q : Int) := by unfold I64; omega

section
variable {H : Heap} {k : Post}

theorem Wi.shrN {a i : Nat} {κ : IntKind} (ha : a < 9223372036854775808) (hi : i ≤ 63) (h : k (.int .i64 ((a / 2 ^ i : Nat) : Int)) H) : W.bin .shr (.int .i64 (a : Nat)) (.int κ (i : Nat)) H k := by
  have e : ((a : Int).fdiv (2 ^ (min ((i : Int).toNat) IntKind.i64.bits))) = ((a / 2 ^ i : Nat) : Int) := by
    rw [Int.toNat_natCast, show min i IntKind.i64.bits = i from Nat.min_eq_left (by simp [IntKind.bits]; omega)]
    rw [Int.fdiv_eq_ediv_of_nonneg _ (Int.le_of_lt (Int.pow_pos (by decide)))]
    simp
  simp only [W.bin, binEval]
  rw [if_neg (by omega), e]
  exact h

theorem Wi.and1 {a : Nat} (h : k (.int .i64 ((a % 2 : Nat) : Int)) H) : W.bin .and (.int .i64 (a : Nat)) (.int .i64 1) H k := by
  have e : ((BitVec.ofInt IntKind.i64.bits (a : Int) &&& BitVec.ofInt IntKind.i64.bits 1).toNat : Int) = ((a % 2 : Nat) : Int) := by
    congr 1
    have h1 : (BitVec.ofInt 64 (1 : Int)).toNat = 1 := by decide
    have h2 : (BitVec.ofInt 64 (a : Int)).toNat = a % 2 ^ 64 := by
      rw [BitVec.ofInt_natCast, BitVec.toNat_ofNat]
    show (BitVec.ofInt 64 (a : Int) &&& BitVec.ofInt 64 (1 : Int)).toNat = a % 2
    rw [BitVec.toNat_and, h1, h2, Nat.and_one_is_mod]
    omega
  have hw : I64 ((a % 2 : Nat) : Int) := by unfold I64; omega
  simp only [W.bin, binEval, intEval, if_true]
  rw [e, wrap_id hw]
  exact h

theorem pow63 {n : Nat} (h : n ≤ 62) : 2 ^ n < 9223372036854775808 := Nat.lt_of_le_of_lt (Nat.pow_le_pow_right (n := 2) (j := 62) (by decide) h) (by decide)

theorem Wi.shl1 {n : Nat} {κ : IntKind} (hn : n ≤ 62) (h : k (.int .i64 ((2 ^ n : Nat) : Int)) H) : W.bin .shl (.int .i64 1) (.int κ (n : Nat)) H k := by
  have e : (1 : Int) * 2 ^ (min ((n : Int).toNat) IntKind.i64.bits) = ((2 ^ n : Nat) : Int) := by
    rw [Int.toNat_natCast, show min n IntKind.i64.bits = n from Nat.min_eq_left (by simp [IntKind.bits]; omega), Int.one_mul]
    simp
  have hw : I64 ((2 ^ n : Nat) : Int) := i64N (Nat.le_refl _) (pow63 hn)
  simp only [W.bin, binEval]
  rw [if_neg (by omega), e, wrap_id hw]
  exact h

theorem Wi.convN {n : Nat} {κ : IntKind} (hn : n < 9223372036854775808) (h : k (.int .u64 (n : Nat)) H) : W.conv .u64 (.int κ (n : Nat)) H k := by
  have e : IntKind.u64.wrap (n : Int) = n := by
    simp only [IntKind.wrap, IntKind.signed, IntKind.bits]
    simp
    omega
  show k (.int .u64 (IntKind.u64.wrap n)) H
  rw [e]
  exact h

theorem bit_iff {s i : Nat} : (((s / 2 ^ i % 2 : Nat) : Int) = 1) ↔ s.testBit i = true := by
  rw [Nat.testBit_eq_decide_div_mod_eq, decide_eq_true_iff]
  omega

end
end Go.Ab

/-! Rows that a call may write: one number of one row; things that lie apart. No program here. -/
namespace Go.Ab

/-- One row, as it may be written. -/
theorem rows_at {H : Heap} {bs : List Nat} {v : Value} {xs : List (List Int)} {a : Nat} (h : (Rd.slice (Rd.slice Rd.int)).rel H bs [v] xs) (hn : bs.Nodup) (hrw : RW H bs) (ha : a < xs.length) :
    ∃ u fi, (∀ (κ : IntKind) (K : Post), K u H → W.indexAddr 1 v (.int κ a) H fun p H => W.get p H K) ∧ (Rd.slice Rd.int).rel H fi [u] xs[a] ∧ RW H fi ∧ (∀ c ∈ fi, c ∈ bs) ∧
      ∀ H' y, Marked (Rd.slice Rd.int) H fi [u] y H' → Marked (Rd.slice (Rd.slice Rd.int)) H bs [v] (xs.set a y) H' := by
  obtain ⟨b, o, e, kb, fs, q1, q2, s⟩ := Rd.slice_at h ha
  have hroom := s.room
  have hrow : ∃ us : List Value, us.length = xs.length ∧ ∀ i, i < xs.length → headAt H v i = us[i]? := by
    refine ⟨(kb.cells.drop o).take xs.length, by simp only [Rd.slice, Nat.mul_one] at hroom; simp; omega, fun i hi => ?_⟩
    rw [q1]
    simp only [headAt, s.blk, Option.bind_some]
    rw [List.getElem?_take, if_pos hi, List.getElem?_drop]
  obtain ⟨us, g1, g2⟩ := hrow
  obtain ⟨u, fi, h1, ⟨b', o', e', kb', e1, h3, h4⟩, h5, h6, h7, h8, h9⟩ := rows_elem (n := 0) rfl ⟨h, hn, hrw, g1, g2⟩ ha
  exact ⟨u, fi, fun κ K k => Wi.indexE e1 ha (Wi.get h3 h4 k), h5, h7, h8, fun H' y m => (h9 H' y m).2⟩

section
variable {H0 H H' : Heap} {L L' : List (Atom H0.next)} {K : Post}

/-- One thing changes; the others lie apart. -/
theorem Loc.updA (h : Loc H0 L H) {i : Nat} {a : Atom H0.next} (hi : L[i]? = some a) : ∃ bs, a.P H bs ∧ (∀ b ∈ bs, H0.next ≤ b) ∧ (∀ j c, j ≠ i → L[j]? = some c → ∃ cs, c.P H cs ∧ ∀ b ∈ cs, b ∉ bs) ∧
    ∀ H' a' bs', H.next ≤ H'.next → (∀ c, c < H.next → c ∉ bs → H'.blk c = H.blk c) → a'.P H' bs' → (∀ c ∈ bs', c ∈ bs ∨ H.next ≤ c) → Loc H0 (L.set i a') H' := by
  obtain ⟨le, F, h1, h2⟩ := h
  obtain ⟨p, q⟩ := h1 i a hi
  refine ⟨F i, p, q, fun j c hj hc => ⟨F j, (h1 j c hc).1, fun b hb => h2 j i c a hj hc hi b hb⟩, ?_⟩
  -- the rest is that of upd, for the same blocks
  have key := fun (H' : Heap) (a' : Atom H0.next) (bs' : List Nat) (hn : H.next ≤ H'.next) (hb : ∀ c, c < H.next → c ∉ F i → H'.blk c = H.blk c) (p' : a'.P H' bs') (hs : ∀ c ∈ bs', c ∈ F i ∨ H.next ≤ c) => (show Loc H0 (L.set i a') H' from by
    refine ⟨⟨Nat.le_trans le.next hn, fun b hb0 => ?_⟩, fun j => if j = i then bs' else F j, fun j c hj => ?_, fun j k c d hjk hj hk b hbj hbk => ?_⟩
    · rw [hb b (Nat.lt_of_lt_of_le hb0 le.next) fun hm => by have := q b hm; omega, le.blk b hb0]
    · by_cases hji : j = i
      · subst hji
        rw [List.getElem?_set_self (List.getElem?_eq_some_iff.1 hi).1] at hj
        cases hj
        simp only [if_true]
        exact ⟨p', fun b hb => (hs b hb).elim (q b) fun g => Nat.le_trans le.next g⟩
      · rw [List.getElem?_set_ne (fun e => hji e.symm)] at hj
        obtain ⟨pj, qj⟩ := h1 j c hj
        simp only [if_neg hji]
        refine ⟨c.frame pj le.next hn fun b hb' => ?_, qj⟩
        rcases hb' with hb' | hb'
        · exact hb b (Nat.lt_of_lt_of_le hb' le.next) fun hm => by have := q b hm; omega
        · exact hb b (c.low pj b hb') fun hm => h2 j i c a hji hj hi b hb' hm
    · have hjL : ∀ j c, j ≠ i → (L.set i a')[j]? = some c → L[j]? = some c := fun j c hji hj => by rw [List.getElem?_set_ne (fun e => hji e.symm)] at hj; exact hj
      have hbj : b ∈ (if j = i then bs' else F j) := hbj
      have hbk : b ∈ (if k = i then bs' else F k) := hbk
      by_cases hji : j = i
      · rw [if_pos hji] at hbj
        have hki : k ≠ i := fun e => hjk (by rw [hji, e])
        rw [if_neg hki] at hbk
        have hkL := hjL k d hki hk
        rcases hs b hbj with h | h
        · exact h2 i k a d (fun e => hki e.symm) hi hkL b h hbk
        · have := d.low (h1 k d hkL).1 b hbk
          omega
      · rw [if_neg hji] at hbj
        have hjl := hjL j c hji hj
        by_cases hki : k = i
        · rw [if_pos hki] at hbk
          rcases hs b hbk with h | h
          · exact h2 j i c a hji hjl hi b hbj h
          · have := c.low (h1 j c hjl).1 b hbj
            omega
        · rw [if_neg hki] at hbk
          exact h2 j k c d hjk hjl (hjL k d hki hk) b hbj hbk)
  exact key

/-- A thing that a call writes, and one that it reads. -/
theorem Loc.apart (h : Loc H0 L H) {α β : Type} {r : Rd α} {s : Rd β} {cs c2 : List Value} {x : α} {y : β} {i j : Nat} (hi : L[i]? = some (.data r cs x)) (hj : L[j]? = some (.data s c2 y)) (hij : i ≠ j) {M : α → List (Atom H0.next)} [m : ∀ y, SetI L i (.data r cs y) (M y)] :
    ∃ bs ds, r.rel H bs cs x ∧ bs.Nodup ∧ RW H bs ∧ s.rel H ds c2 y ∧ (∀ b ∈ ds, b ∉ bs) ∧ ∀ y H', Marked r H bs cs y H' → Loc H0 (M y) H' := by
  obtain ⟨bs, ⟨h1, h2, h3⟩, _, g, k⟩ := h.updA hi
  obtain ⟨ds, ⟨d1, _⟩, d2⟩ := g j _ (fun e => hij e.symm) hj
  exact ⟨bs, ds, h1, h2, h3, d1, d2, fun y H' mk => by rw [(m y).eq]; exact k H' _ bs mk.next (fun c hc hcb => mk.off c hc hcb) ⟨mk.rel, h2, mk.rw⟩ fun c hc => .inl hc⟩

theorem Loc.apartL (h : Loc H0 L H) {α β : Type} {r : Rd α} {s : Rd β} {cs c2 : List Value} {x : α} {y : β} {i : Nat} (hi : L[i]? = some (.data r cs x)) (hj : Has s H0 c2 y) {M : α → List (Atom H0.next)} [m : ∀ y, SetI L i (.data r cs y) (M y)] :
    ∃ bs ds, r.rel H bs cs x ∧ bs.Nodup ∧ RW H bs ∧ s.rel H ds c2 y ∧ (∀ b ∈ ds, b ∉ bs) ∧ ∀ y H', Marked r H bs cs y H' → Loc H0 (M y) H' := by
  obtain ⟨bs, ⟨h1, h2, h3⟩, g, _, k⟩ := h.updA hi
  obtain ⟨ds, hd⟩ := hj
  exact ⟨bs, ds, h1, h2, h3, Rd.le _ hd h.le, fun b hb hm => by have := s.low hd b hb; have := g b hm; omega, fun y H' mk => by rw [(m y).eq]; exact k H' _ bs mk.next (fun c hc hcb => mk.off c hc hcb) ⟨mk.rel, h2, mk.rw⟩ fun c hc => .inl hc⟩

end
end Go.Ab
