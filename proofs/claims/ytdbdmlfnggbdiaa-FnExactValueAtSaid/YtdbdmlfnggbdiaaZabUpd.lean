/- Writes into slices and structs. -/
import Derived.Test.YtdbdmlfnggbdiaaZabGrow
namespace Go.Ab

theorem Marked.refl {α : Type} {r : Rd α} {H : Heap} {bs : List Nat} {cs : List Value} {x : α} (h : r.rel H bs cs x) (hrw : RW H bs) : Marked r H bs cs x H := ⟨Nat.le_refl _, h, fun _ _ _ => rfl, hrw⟩

theorem Marked.trans {α : Type} {r : Rd α} {H H1 H2 : Heap} {bs : List Nat} {cs : List Value} {x y : α} (m : Marked r H bs cs x H1) (m2 : Marked r H1 bs cs y H2) : Marked r H bs cs y H2 :=
  ⟨Nat.le_trans m.next m2.next, m2.rel, fun c hc hcb => by rw [m2.off c (Nat.lt_of_lt_of_le hc m.next) hcb, m.off c hc hcb], m2.rw⟩

theorem Marked.le {α : Type} {r : Rd α} {H H1 H2 : Heap} {bs : List Nat} {cs : List Value} {x : α} (m : Marked r H bs cs x H1) (l : H1.Le H2) : Marked r H bs cs x H2 :=
  ⟨Nat.le_trans m.next l.next, Rd.le _ m.rel l, fun c hc hcb => by rw [l.blk c (Nat.lt_of_lt_of_le hc m.next), m.off c hc hcb], m.rw.le l (r.low m.rel)⟩

/-- What was made, written. -/
theorem Fresh.upd {α : Type} {r : Rd α} {H0 H H' : Heap} {bs : List Nat} {cs : List Value} {x : α} (l : H0.Le H) (h2 : bs.Nodup) (h3 : ∀ c ∈ bs, H0.next ≤ c) (m : Marked r H bs cs x H') : Fresh r H0 cs x H' :=
  ⟨⟨Nat.le_trans l.next m.next, fun c hc => by rw [m.off c (Nat.lt_of_lt_of_le hc l.next) fun hb => by have := h3 c hb; omega, l.blk c hc]⟩, bs, m.rel, h2, h3, m.rw⟩

/-- A part of a struct, written. -/
theorem Marked.fst {α β : Type} {r : Rd α} {s : Rd β} {H H' : Heap} {b1 b2 : List Nat} {c1 c2 : List Value} {x : α} {y : β} (m : Marked r H b1 c1 x H') (h2 : s.rel H b2 c2 y) (hn : (b1 ++ b2).Nodup) (hrw : RW H b2) :
    Marked (r.pair s) H (b1 ++ b2) (c1 ++ c2) (x, y) H' := by
  have hd := (List.nodup_append.1 hn).2.2
  have fr : ∀ c ∈ b2, H'.blk c = H.blk c := fun c hc => m.off c (s.low h2 c hc) fun h => hd c h c hc rfl
  refine ⟨m.next, ⟨b1, b2, c1, c2, rfl, rfl, m.rel, s.frame h2 m.next fr⟩, fun c hc hcb => m.off c hc fun h => hcb (List.mem_append_left _ h), fun c hc kc hk => ?_⟩
  rcases List.mem_append.1 hc with hc | hc
  · exact m.rw c hc kc hk
  · rw [fr c hc] at hk; exact hrw c hc kc hk

theorem Marked.snd {α β : Type} {r : Rd α} {s : Rd β} {H H' : Heap} {b1 b2 : List Nat} {c1 c2 : List Value} {x : α} {y : β} (m : Marked s H b2 c2 y H') (h1 : r.rel H b1 c1 x) (hn : (b1 ++ b2).Nodup) (hrw : RW H b1) :
    Marked (r.pair s) H (b1 ++ b2) (c1 ++ c2) (x, y) H' := by
  have hd := (List.nodup_append.1 hn).2.2
  have fr : ∀ c ∈ b1, H'.blk c = H.blk c := fun c hc => m.off c (r.low h1 c hc) fun h => hd c hc c h rfl
  refine ⟨m.next, ⟨b1, b2, c1, c2, rfl, rfl, r.frame h1 m.next fr, m.rel⟩, fun c hc hcb => m.off c hc fun h => hcb (List.mem_append_right _ h), fun c hc kc hk => ?_⟩
  rcases List.mem_append.1 hc with hc | hc
  · rw [fr c hc] at hk; exact hrw c hc kc hk
  · exact m.rw c hc kc hk

/-- One number of a list, written. -/
theorem Wi.setInt {H : Heap} {bs : List Nat} {v : Value} {xs : List Int} {i : Nat} {y : Int} {κ : IntKind} {K : Post} (h : (Rd.slice Rd.int).rel H bs [v] xs) (hrw : RW H bs) (hi : i < xs.length) (hy : I64 y)
    (hK : ∀ H', Marked (Rd.slice Rd.int) H bs [v] (xs.set i y) H' → K undef H') : W.indexAddr 1 v (.int κ i) H fun p H => W.put p (.int .i64 y) H K := by
  obtain ⟨b, o, e, kb, fs, q1, q2, s⟩ := Rd.slice_at h hi
  have hin := s.in hi
  simp only [Rd.int] at hin
  rw [q1]
  refine Wi.index hi (Wi.put s.blk rfl (hrw b (by rw [q2]; simp) kb s.blk) (by omega) fun H' w => ?_)
  have hfs : ∀ j (hj : j < xs.length), fs j = [] := fun j hj => (s.each j hj).1
  have hbs : ∀ c ∈ bs, c = b := fun c hc => by
    rw [q2, List.mem_cons, List.mem_flatMap] at hc
    rcases hc with h | ⟨j, hj, hc⟩
    · exact h
    · rw [hfs j (by simpa using hj)] at hc; cases hc
  refine hK H' ⟨by rw [w.next]; exact Nat.le_refl _, .inr ⟨b, o, e, _, fs, by rw [q2, List.length_set], by rw [List.length_set]; first | done | rw [q1], ⟨by rw [w.next]; exact s.lt, w.here, by rw [List.length_set]; exact s.cap, by rw [List.length_set]; exact s.small, by
      rw [List.length_set]; simpa using s.room, fun j hj => ?_⟩⟩, fun c hc hcb => w.off c fun e => hcb (by rw [e, q2]; simp), fun c hc kc hk => ?_⟩
  · rw [List.length_set] at hj
    have := s.each j hj
    obtain ⟨g1, g2, g3⟩ := this
    have hinj := s.in hj
    simp only [Rd.int] at hinj
    refine ⟨g1, ?_, ?_⟩
    · have g2' : cellsAt 1 kb.cells o j = [.int .i64 xs[j]] := g2
      show cellsAt 1 _ o j = _
      rw [cellsAt_one (by simp; omega)]
      rw [cellsAt_one (by omega)] at g2'
      simp only [List.cons.injEq, and_true] at g2'
      rw [List.getElem_set, List.getElem_set]
      by_cases hij : i = j
      · subst hij; simp
      · rw [if_neg (by omega), if_neg hij, g2']
    · rw [List.getElem_set]
      split
      · exact hy
      · exact g3
  · rw [hbs c hc, w.here] at hk
    cases hk
    exact hrw b (by rw [q2]; simp) kb s.blk

/-- One row of a list of rows, written. -/
theorem Marked.elem {α : Type} {r : Rd α} (hr : r.n = 1) {H : Heap} {bs : List Nat} {v : Value} {xs : List α} (h : (Rd.slice r).rel H bs [v] xs) (hnd : bs.Nodup) (hrw : RW H bs) {i : Nat} (hi : i < xs.length) :
    ∃ b o e kb u fi, v = .slice (some (adr b o)) xs.length e ∧ H.blk b = some kb ∧ kb.cells[o + i * 1]? = some u ∧ r.rel H fi [u] xs[i] ∧ fi.Nodup ∧ RW H fi ∧ (∀ c ∈ fi, c ∈ bs) ∧
      ∀ H' y, Marked r H fi [u] y H' → Marked (Rd.slice r) H bs [v] (xs.set i y) H' := by
  obtain ⟨b, o, e, kb, fs, q1, q2, s⟩ := Rd.slice_at h hi
  obtain ⟨u, hu, hru⟩ := s.one hr hi
  have hbnd := hnd
  rw [q2] at hbnd
  have hbn := List.nodup_cons.1 hbnd
  have hmem : ∀ j, j < xs.length → ∀ c ∈ fs j, c ∈ bs := fun j hj c hc => by rw [q2]; exact List.mem_cons_of_mem _ (List.mem_flatMap.2 ⟨j, by simpa using hj, hc⟩)
  have hnb : ∀ j, j < xs.length → b ∉ fs j := fun j hj hc => hbn.1 (List.mem_flatMap.2 ⟨j, by simpa using hj, hc⟩)
  refine ⟨b, o, e, kb, u, fs i, q1, s.blk, hu, hru, (flat_nodup hbn.2 hi hi).1, fun c hc => hrw c (hmem i hi c hc), hmem i hi, fun H' y m => ?_⟩
  have hbk : H'.blk b = some kb := by rw [m.off b s.lt (hnb i hi)]; exact s.blk
  refine ⟨m.next, .inr ⟨b, o, e, kb, fs, by rw [q2, List.length_set], by rw [List.length_set]; first | done | rw [q1], ⟨Nat.lt_of_lt_of_le s.lt m.next, hbk, by rw [List.length_set]; exact s.cap, by rw [List.length_set]; exact s.small, by
      rw [List.length_set]; exact s.room, fun j hj => ?_⟩⟩, fun c hc hcb => m.off c hc fun h => hcb (hmem i hi c h), fun c hc kc hk => ?_⟩
  · rw [List.length_set] at hj
    by_cases hij : i = j
    · subst hij
      have e1 : cellsAt r.n kb.cells o i = [u] := by
        have hin := s.in hi
        rw [hr] at hin ⊢
        rw [cellsAt_one (by omega)]
        rw [List.getElem?_eq_getElem (by omega)] at hu
        simpa using hu
      rw [e1]
      simp only [List.getElem_set_self]
      exact m.rel
    · rw [List.getElem_set_ne hij]
      refine r.frame (s.each j hj) m.next fun c hc => m.off c (r.low (s.each j hj) c hc) fun hci => ?_
      exact (flat_nodup hbn.2 hi hj).2 hij c hci hc
  · by_cases hci : c ∈ fs i
    · exact m.rw c hci kc hk
    · rw [m.off c ((Rd.slice r).low h c hc) hci] at hk
      exact hrw c hc kc hk

end Go.Ab
