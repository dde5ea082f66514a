/- Writes, rows, what is made: words over things. -/
import Derived.Test.YtdbdmlfnggbdiaaZabLoc3
namespace Go.Ab

def headAt (H : Heap) (v : Value) (i : Nat) : Option Value := match v with | .slice (some a) _ _ => (H.blk a.block).bind fun k => k.cells[a.off + i]? | _ => none

theorem headAt_frame {α : Type} {r : Rd α} {H H' : Heap} {bs : List Nat} {v : Value} {xs : List α} (h : (Rd.slice r).rel H bs [v] xs) (hb : ∀ b ∈ bs, H'.blk b = H.blk b) {i : Nat} (hi : i < xs.length) : headAt H' v i = headAt H v i := by
  obtain ⟨b, o, e, kb, fs, q1, q2, s⟩ := Rd.slice_at h hi
  rw [q1]
  simp only [headAt]
  rw [hb b (by rw [q2]; simp)]

/-- Rows whose headers are known. -/
def Atom.rows {n : Nat} {α : Type} (r : Rd α) (v : Value) (us : List Value) (xs : List α) : Atom n where
  P := fun H bs => (Rd.slice r).rel H bs [v] xs ∧ bs.Nodup ∧ RW H bs ∧ us.length = xs.length ∧ ∀ i, i < xs.length → headAt H v i = us[i]?
  low := fun h => (Rd.slice r).low h.1
  frame := fun h _ hn hb => ⟨(Rd.slice r).frame h.1 hn fun b hm => hb b (.inr hm), h.2.1, fun c hc kc hk => h.2.2.1 c hc kc (by rw [← hb c (.inr hc)]; exact hk), h.2.2.2.1, fun i hi => by
    rw [headAt_frame h.1 (fun b hm => hb b (.inr hm)) hi]; exact h.2.2.2.2 i hi⟩

section
variable {n : Nat}
instance {α : Type} {r : Rd α} {v : Value} {us : List Value} {xs : List α} {L : List (Atom n)} : AtV (.rows r v us xs :: L) [v] (.rows r v us xs) 0 := ⟨rfl⟩
instance {α : Type} {r : Rd α} {v : Value} {us : List Value} {xs : List α} {L : List (Atom n)} : RdV (.rows r v us xs :: L) [v] (Rd.slice r) xs := ⟨_, List.mem_cons_self, fun _ _ h => ⟨_, h.1⟩⟩
end

/-- An element of a slice in place. -/
theorem Marked.setP {α : Type} {r : Rd α} [p : Plain r] {H : Heap} {bs : List Nat} {v : Value} {xs : List α} {i : Nat} {y : α} {cs : List Value} (h : (Rd.slice r).rel H bs [v] xs) (hrw : RW H bs) (hi : i < xs.length) (hy : ∀ H, r.rel H [] cs y) :
    ∃ b o e kb, v = .slice (some (adr b o)) xs.length e ∧ H.blk b = some kb ∧ kb.ro = false ∧ o + i * r.n + r.n ≤ kb.cells.length ∧
      ∀ H', H.Wr b { kb with cells := kb.cells.take (o + i * r.n) ++ cs ++ kb.cells.drop (o + i * r.n + r.n) } H' → Marked (Rd.slice r) H bs [v] (xs.set i y) H' := by
  obtain ⟨b, o, e, kb, fs, q1, q2, s⟩ := Rd.slice_at h hi
  have hin := s.in hi
  have hcl : cs.length = r.n := r.len (hy H)
  have hfs : ∀ j (hj : j < xs.length), fs j = [] := fun j hj => (p.no (s.each j hj)).1
  have hbs : ∀ c ∈ bs, c = b := fun c hc => by
    rw [q2, List.mem_cons, List.mem_flatMap] at hc
    rcases hc with h | ⟨j, hj, hc⟩
    · exact h
    · rw [hfs j (by simpa using hj)] at hc; cases hc
  refine ⟨b, o, e, kb, q1, s.blk, hrw b (by rw [q2]; simp) kb s.blk, hin, fun H' w => ⟨by rw [w.next]; exact Nat.le_refl _, .inr ⟨b, o, e, _, fs, by rw [q2, List.length_set], by rw [List.length_set]; first | done | rw [q1], ⟨by rw [w.next]; exact s.lt, w.here, by rw [List.length_set]; exact s.cap, by rw [List.length_set]; exact s.small, by
      rw [List.length_set]
      have := s.room
      simp only [List.length_append, List.length_take, List.length_drop, hcl]
      omega, fun j hj => ?_⟩⟩, fun c hc hcb => w.off c fun e => hcb (by rw [e, q2]; simp), fun c hc kc hk => ?_⟩⟩
  · have hj' : j < xs.length := by rw [List.length_set] at hj; exact hj
    rw [cells_put hcl hin, hfs j hj']
    by_cases hji : j = i
    · subst hji
      rw [if_pos rfl]
      simp only [List.getElem_set_self]
      exact hy H'
    · rw [if_neg hji, List.getElem_set_ne (fun h => hji h.symm)]
      exact (p.no (s.each j hj')).2 H'
  · rw [hbs c hc, w.here] at hk
    cases hk
    exact hrw b (by rw [q2]; simp) kb s.blk

theorem rows_elem {n : Nat} {α : Type} {r : Rd α} (hr : r.n = 1) {H : Heap} {bs : List Nat} {v : Value} {us : List Value} {xs : List α} (h : (Atom.rows (n := n) r v us xs).P H bs) {a : Nat} (ha : a < xs.length) :
    ∃ u fi, us[a]? = some u ∧ (∃ b o e kb, v = .slice (some (adr b o)) xs.length e ∧ H.blk b = some kb ∧ kb.cells[o + a * 1]? = some u) ∧ r.rel H fi [u] xs[a] ∧ fi.Nodup ∧ RW H fi ∧ (∀ c ∈ fi, c ∈ bs) ∧
      ∀ H' y, Marked r H fi [u] y H' → (Atom.rows (n := n) r v us (xs.set a y)).P H' bs ∧ Marked (Rd.slice r) H bs [v] (xs.set a y) H' := by
  obtain ⟨h1, h2, h3, h4, h5⟩ := h
  obtain ⟨b, o, e, kb, fs, q1, q2, s⟩ := Rd.slice_at h1 ha
  obtain ⟨u, hu, hru⟩ := s.one hr ha
  have hbn := List.nodup_cons.1 (q2 ▸ h2)
  have hmem : ∀ j, j < xs.length → ∀ c ∈ fs j, c ∈ bs := fun j hj c hc => by rw [q2]; exact List.mem_cons_of_mem _ (List.mem_flatMap.2 ⟨j, by simpa using hj, hc⟩)
  have hnb : ∀ j, j < xs.length → b ∉ fs j := fun j hj hc => hbn.1 (List.mem_flatMap.2 ⟨j, by simpa using hj, hc⟩)
  refine ⟨u, fs a, ?_, ⟨b, o, e, kb, q1, s.blk, hu⟩, hru, (flat_nodup hbn.2 ha ha).1, fun c hc => h3 c (hmem a ha c hc), hmem a ha, fun H' y m => ?_⟩
  · rw [← h5 a ha, q1]
    simp only [headAt, s.blk, Option.bind_some]
    rw [← Nat.mul_one a]
    exact hu
  · have hbk : H'.blk b = some kb := by rw [m.off b s.lt (hnb a ha)]; exact s.blk
    have mk : Marked (Rd.slice r) H bs [v] (xs.set a y) H' := by
      refine ⟨m.next, .inr ⟨b, o, e, kb, fs, by rw [q2, List.length_set], by rw [List.length_set]; first | done | rw [q1], ⟨Nat.lt_of_lt_of_le s.lt m.next, hbk, by rw [List.length_set]; exact s.cap, by rw [List.length_set]; exact s.small, by
          rw [List.length_set]; exact s.room, fun j hj => ?_⟩⟩, fun c hc hcb => m.off c hc fun h => hcb (hmem a ha c h), fun c hc kc hk => ?_⟩
      · rw [List.length_set] at hj
        by_cases hij : a = j
        · subst hij
          have e1 : cellsAt r.n kb.cells o a = [u] := by
            have hin := s.in ha
            rw [hr] at hin ⊢
            rw [cellsAt_one (by omega)]
            rw [List.getElem?_eq_getElem (by omega)] at hu
            simpa using hu
          rw [e1]
          simp only [List.getElem_set_self]
          exact m.rel
        · rw [List.getElem_set_ne hij]
          refine r.frame (s.each j hj) m.next fun c hc => m.off c (r.low (s.each j hj) c hc) fun hci => ?_
          exact (flat_nodup hbn.2 ha hj).2 hij c hci hc
      · by_cases hci : c ∈ fs a
        · exact m.rw c hci kc hk
        · rw [m.off c ((Rd.slice r).low h1 c hc) hci] at hk
          exact h3 c hc kc hk
    refine ⟨⟨mk.rel, h2, mk.rw, by rw [List.length_set]; exact h4, fun i hi => ?_⟩, mk⟩
    rw [List.length_set] at hi
    rw [← h5 i hi, q1]
    simp only [headAt, hbk, s.blk]

section
variable {H0 H H' : Heap} {L L' L2 : List (Atom H0.next)} {K : Post}

theorem Loc.mark (h : Loc H0 L H) {α : Type} {r : Rd α} {cs : List Value} {x : α} {i : Nat} (hi : L[i]? = some (.data r cs x)) : ∃ bs, r.rel H bs cs x ∧ bs.Nodup ∧ RW H bs ∧ ∀ y H', Marked r H bs cs y H' → Loc H0 (L.set i (.data r cs y)) H' := by
  obtain ⟨bs, ⟨h1, h2, h3⟩, _, k⟩ := h.upd hi
  exact ⟨bs, h1, h2, h3, fun y H' m => k H' _ bs m.next (fun c hc hcb => m.off c hc hcb) ⟨m.rel, h2, m.rw⟩ fun c hc => .inl hc⟩

/-- One number of a list, written. -/
theorem Wl.setInt {v : Value} {xs : List Int} {i j : Nat} {y : Int} {κ : IntKind} (h : Loc H0 L H) [c : AtV L [v] (.data (Rd.slice Rd.int) [v] xs) j] [s : SetI L j (.data (Rd.slice Rd.int) [v] (xs.set i y)) L'] (hi : i < xs.length) (hy : I64 y)
    (k : ∀ H', Loc H0 L' H' → K undef H') : W.indexAddr 1 v (.int κ i) H fun p H => W.put p (.int .i64 y) H K := by
  obtain ⟨bs, h1, h2, h3, u⟩ := h.mark c.get
  exact Wi.setInt h1 h3 hi hy fun H' m => k H' (by rw [s.eq]; exact u _ _ m)

theorem Wl.setBool {v : Value} {xs : List Bool} {i j : Nat} {y : Bool} {κ : IntKind} (h : Loc H0 L H) [c : AtV L [v] (.data (Rd.slice Rd.bool) [v] xs) j] [s : SetI L j (.data (Rd.slice Rd.bool) [v] (xs.set i y)) L'] (hi : i < xs.length)
    (k : ∀ H', Loc H0 L' H' → K undef H') : W.indexAddr 1 v (.int κ i) H fun p H => W.put p (.bool y) H K := by
  obtain ⟨bs, h1, h2, h3, u⟩ := h.mark c.get
  obtain ⟨b, o, e, kb, rfl, q2, q3, q4, q5⟩ := Marked.setP (cs := [.bool y]) h1 h3 hi (fun _ => ⟨rfl, rfl⟩)
  simp only [Rd.bool] at q4 q5
  refine Wi.index hi (Wi.put q2 rfl q3 (by omega) fun H' w => k H' (by
    rw [s.eq]
    refine u _ _ (q5 H' ?_)
    have e : kb.cells.take (o + i * 1) ++ [Value.bool y] ++ kb.cells.drop (o + i * 1 + 1) = kb.cells.set (o + i * 1) (.bool y) := by
      rw [List.set_eq_take_append_cons_drop, if_pos (by omega)]
      simp
    rw [e]
    exact w))

theorem Wl.setP {α : Type} {r : Rd α} [Plain r] {m : Nat} (hm : r.n = m) {v : Value} {xs : List α} {i j : Nat} {y : α} {cs : List Value} {κ : IntKind} (h : Loc H0 L H) [c : AtV L [v] (.data (Rd.slice r) [v] xs) j] [s : SetI L j (.data (Rd.slice r) [v] (xs.set i y)) L'] (hi : i < xs.length) (hy : ∀ H, r.rel H [] cs y)
    (k : ∀ H', Loc H0 L' H' → K undef H') : W.indexAddr m v (.int κ i) H fun p H => W.putN m p (.agg cs.toArray) H K := by
  subst hm
  obtain ⟨bs, h1, h2, h3, u⟩ := h.mark c.get
  obtain ⟨b, o, e, kb, rfl, q2, q3, q4, q5⟩ := Marked.setP (cs := cs) h1 h3 hi hy
  have hcl : cs.length = r.n := r.len (hy H)
  have hcc := r.cell (hy H)
  refine Wi.index hi (Wi.putN q2 (by simpa using hcl) (by simpa using hcc) q3 q4 fun H' w => k H' (by
    rw [s.eq]
    exact u _ _ (q5 H' w)))

/-- The headers of rows. -/
theorem Loc.heads (h : Loc H0 L H) {α : Type} {r : Rd α} (hr : r.n = 1) {v : Value} {xs : List α} {i : Nat} {M : List Value → List (Atom H0.next)} (hi : L[i]? = some (.data (Rd.slice r) [v] xs)) [m : ∀ us, SetI L i (.rows r v us xs) (M us)] : ∃ us, us.length = xs.length ∧ Loc H0 (M us) H := by
  obtain ⟨bs, ⟨h1, h2, h3⟩, _, k⟩ := h.upd hi
  have : ∃ us : List Value, us.length = xs.length ∧ ∀ i, i < xs.length → headAt H v i = us[i]? := by
    rcases Nat.eq_zero_or_pos xs.length with h0 | h0
    · exact ⟨[], h0.symm, fun i hi => by omega⟩
    · obtain ⟨b, o, e, kb, fs, q1, q2, s⟩ := Rd.slice_at h1 h0
      have hroom := s.room
      rw [hr] at hroom
      refine ⟨(kb.cells.drop o).take xs.length, by simp; omega, fun i hi => ?_⟩
      rw [q1]
      simp only [headAt, s.blk, Option.bind_some]
      rw [List.getElem?_take, if_pos hi, List.getElem?_drop]
  obtain ⟨us, g1, g2⟩ := this
  exact ⟨us, g1, by rw [(m us).eq]; exact k H _ bs (Nat.le_refl _) (fun _ _ _ => rfl) ⟨h1, h2, h3, g1, g2⟩ fun c hc => .inl hc⟩

theorem Loc.unrows (h : Loc H0 L H) {α : Type} {r : Rd α} {v : Value} {us : List Value} {xs : List α} {i : Nat} (hi : L[i]? = some (.rows r v us xs)) [m : SetI L i (.data (Rd.slice r) [v] xs) L'] : Loc H0 L' H := by
  rw [m.eq]
  exact h.as hi fun bs p => ⟨bs, ⟨p.1, p.2.1, p.2.2.1⟩, fun c hc => hc⟩

theorem Wl.atRow {α : Type} {r : Rd α} (hr : r.n = 1) {v : Value} {us : List Value} {xs : List α} {a j : Nat} {κ : IntKind} (h : Loc H0 L H) [c : AtV L [v] (.rows r v us xs) j] (ha : a < xs.length) (k : ∀ u, us[a]? = some u → Has r H [u] xs[a] → K u H) :
    W.indexAddr 1 v (.int κ a) H fun p H => W.get p H K := by
  obtain ⟨bs, p, _⟩ := h.mem (List.mem_of_getElem? c.get)
  obtain ⟨u, fi, h1, ⟨b, o, e, kb, rfl, h3, h4⟩, h5, _⟩ := rows_elem hr p ha
  exact Wi.index ha (Wi.get h3 h4 (k u h1 ⟨_, h5⟩))

theorem Loc.row {α : Type} {r : Rd α} (hr : r.n = 1) {v u : Value} {us : List Value} {xs : List α} {a j : Nat} (h : Loc H0 L H) (hj : L[j]? = some (.rows r v us xs)) (hu : us[a]? = some u) (ha : a < xs.length) : Has r H [u] xs[a] := by
  obtain ⟨bs, p, _⟩ := h.mem (List.mem_of_getElem? hj)
  obtain ⟨u', fi, h1, _, h5, _⟩ := rows_elem hr p ha
  rw [hu] at h1
  cases h1
  exact ⟨_, h5⟩

/-- One number of a row, written. -/
theorem Wl.rowSet {v u : Value} {us : List Value} {xs : List (List Int)} {a i j : Nat} {y : Int} {κ : IntKind} (h : Loc H0 L H) (hj : L[j]? = some (.rows (Rd.slice Rd.int) v us xs)) (hu : us[a]? = some u) (ha : a < xs.length) (hi : i < xs[a].length) (hy : I64 y)
    [s : SetI L j (.rows (Rd.slice Rd.int) v us (xs.set a (xs[a].set i y))) L'] (k : ∀ H', Loc H0 L' H' → K undef H') : W.indexAddr 1 u (.int κ i) H fun p H => W.put p (.int .i64 y) H K := by
  obtain ⟨bs, p, _, up⟩ := h.upd hj
  obtain ⟨u', fi, h1, _, h5, h6, h7, h8, h9⟩ := rows_elem rfl p ha
  rw [hu] at h1
  cases h1
  refine Wi.setInt h5 h7 hi hy fun H' m => k H' ?_
  obtain ⟨g1, g2⟩ := h9 H' _ m
  rw [s.eq]
  exact up H' _ bs g2.next (fun c hc hcb => g2.off c hc hcb) g1 fun c hc => .inl hc

/-- A slice of zeros is made. -/
theorem reps_cells {zc : List Value} {m i : Nat} (h : i < m) : cellsAt zc.length (reps m zc) 0 i = zc := by
  induction m generalizing i with
  | zero => omega
  | succ m ih =>
    have e : reps (m + 1) zc = zc ++ reps m zc := by simp [reps, List.replicate_succ]
    rw [e]
    by_cases h0 : i = 0
    · subst h0
      unfold cellsAt
      simp
    · rw [cellsAt_append_right (a := 1) (by omega) (by omega)]
      exact ih (by omega)

theorem Wl.make {α : Type} {r : Rd α} {m : Nat} {zc : List Value} {ty : TypeId} {κ κ' : IntKind} {z : α} (hz : ∀ H, r.rel H [] zc z) (h : Loc H0 L H) (hm : m ≤ 1073741824) (hc : 0 < r.n)
    (k : ∀ H' v, Loc H0 (.grow r ty v (List.replicate m z) :: L) H' → K v H') : W.make zc ty (.int κ m) (.int κ' m) H K := by
  have hl : zc.length = r.n := r.len (hz H)
  refine Wi.make hm fun H' l n hb => k H' _ (h.cons l (bs := [H.next]) (.inr ⟨H.next, 2 * m, _, fun _ => [], by simp, by simp, ?_, by simp, ?_, ⟨by omega, hb, by simp, by simp; omega, ?_, ?_⟩, rfl, hl, ?_, ?_⟩) fun b hb => by simp at hb; omega)
  · rw [flat_nil fun i _ => rfl]
  · intro c hc kc hk
    simp at hc
    subst hc
    rw [hb] at hk
    cases hk
    rfl
  · simp [reps_length, hl]
  · intro i hi
    simp at hi
    simp only [List.getElem_replicate]
    rw [← hl, reps_cells hi]
    exact hz H'
  · simp [reps_length, hl]
  · rw [List.all_eq_true]
    intro c hc
    simp only [reps, List.mem_flatten, List.mem_replicate] at hc
    obtain ⟨l, ⟨_, rfl⟩, hc⟩ := hc
    exact List.all_eq_true.1 (r.cell (hz H)) c hc

/-- An empty literal. -/
theorem Wl.lit0 {α : Type} (r : Rd α) {zc : List Value} {ty : TypeId} (hz : zc.length = r.n) (h : Loc H0 L H) (k : ∀ H' v, Loc H0 (.grow r ty v [] :: L) H' → K v H') : W.lit 0 zc ty [] H K := by
  refine Wi.lit (cells := []) rfl fun H' l n hb => k H' _ (h.cons l (bs := [H.next]) (.inr ⟨H.next, 0, _, fun _ => [], rfl, rfl, rfl, by simp, ?_, ⟨by omega, hb, by simp, by simp, by simp, fun i hi => by simp at hi⟩, rfl, hz, by simp, rfl⟩) fun b hb => by simp at hb; omega)
  intro c hc kc hk
  simp at hc
  subst hc
  rw [hb] at hk
  cases hk
  rfl

/-- One element that was made is appended. -/
theorem Wl.pushO {α : Type} {r : Rd α} (hr : r.n = 1) {ty ty' : TypeId} {v u zv : Value} {x : α} {xs : List α} {i j : Nat} (h : Loc H0 L H) [c : AtV L [v] (.grow r ty v xs) i] [d : AtV L [u] (.data r [u] x) j] {L2 : Value → List (Atom H0.next)} {L3 : Value → List (Atom H0.next)}
    [s : ∀ v', SetI L i (.grow r ty v' (xs ++ [x])) (L2 v')] [s3 : ∀ v', SetI (L2 v') j .emp (L3 v')] (hij : i ≠ j) (hcu : cellsA u = some [u]) (hlen : xs.length < 16777216) (k : ∀ H' v', Loc H0 (L3 v') H' → K v' H') :
    W.lit 1 [zv] ty' [(0, 1, u)] H fun y H => W.append 1 ty v y H K := by
  refine Wi.lit (cells := [u]) ?_ fun H1 l1 n1 k1 => ?_
  · simp [fillA, hcu, reps]
  · obtain ⟨bs, cs, p1, ⟨q1, q2, q3⟩, hd, _, _, up⟩ := (h.to l1).upd2 c.get d.get hij
    have hs : srcCells r.n H1 (.slice (some (adr H.next 0)) 1 (2 * 1)) = some (([x] : List α).length, [u]) := by
      simp [srcCells, Heap.getN, k1, hr]
    have := grow_append (zs := [x]) (K := K) p1 hs (by simp) (by simp [hr]) (r.cell q1) (by simp; omega) (fun _ => cs) (fun i hi => ?_) (by simpa using q2) (by simpa using hd) fun H2 v' bs' p' hn hsame hbs => ?_
    · rw [hr] at this
      exact this
    · have : i = 0 := by simp at hi; omega
      subst this
      refine ⟨?_, q3⟩
      rw [hr]
      exact q1
    · refine k H2 v' ?_
      rw [(s3 v').eq, (s v').eq]
      refine up H2 _ bs' hn (fun c hc h1 _ => hsame c hc h1) p' fun c hc => ?_
      rcases hbs c hc with h | h | h
      · exact .inl h
      · exact .inr (.inl (by simpa using h))
      · exact .inr (.inr h)

end
end Go.Ab
