/- A list of numbers written out as a list that grows; a slice with room made. No program here. -/
import Derived.Test.YtbcfknboheghkaaZabSrc
namespace Go.Ab

section
variable {H0 H : Heap} {L : List (Atom H0.next)} {K : Post}

theorem Wl.litG (xs : List Int) {n : Nat} {ty : TypeId} {parts : List (Nat × Nat × Value)} (hn : n = xs.length) (hs : xs.length < 9223372036854775808) (hI : ∀ x ∈ xs, I64 x) (hf : fillA (reps n [.int .i64 0]) parts = some (xs.map fun x => .int .i64 x)) (h : Loc H0 L H)
    (k : ∀ H' v, Loc H0 (.grow Rd.int ty v xs :: L) H' → K v H') : W.lit n [.int .i64 0] ty parts H K := by
  subst hn
  have hcell : (xs.map fun x => (.int .i64 x : Value)).all isCell = true := by simp [isCell]
  refine Wi.lit hf fun H1 l1 n1 k1 => k H1 _ (h.cons l1 (bs := [H.next]) (.inr ⟨H.next, 2 * xs.length, _, fun _ => [], rfl, by omega, by simp, by simp, ?_, ⟨by omega, k1, by omega, hs, by simp [Rd.int], fun i hi => ?_⟩, rfl, rfl, by simp [Rd.int], hcell⟩) fun b hb => by simp at hb; omega)
  · intro c hc kc hk
    simp at hc
    subst hc
    rw [k1] at hk
    cases hk
    rfl
  · refine ⟨rfl, ?_, hI _ (List.getElem_mem hi)⟩
    show ((xs.map fun x => (.int .i64 x : Value)).drop (0 + i * 1)).take 1 = _
    rw [Nat.zero_add, Nat.mul_one, List.drop_eq_getElem_cons (by simpa using hi)]
    simp

theorem reps_c (c : Nat) (v : Value) : reps c [v] = List.replicate c v := by
  unfold reps
  induction c with
  | zero => rfl
  | succ c ih => rw [List.replicate_succ, List.flatten_cons, ih]; rfl

/-- A slice of numbers with room, as a variable of cells. -/
theorem makeB {m c : Nat} {ty : TypeId} {κ κ' : IntKind} (h : Loc H0 L H) (hmc : m ≤ c) (hm : c ≤ 1073741824)
    (k : ∀ H' b, Loc H0 (.box b (List.replicate c (.int .i64 0)) :: L) H' → K (.slice (some (adr b 0)) m (2 * c)) H') : W.make [.int .i64 0] ty (.int κ m) (.int κ' c) H K := by
  unfold W.make
  refine ⟨by omega, by omega, by omega, ?_⟩
  rw [show ((m : Nat) : Int).toNat = m by omega, show ((c : Nat) : Int).toNat = c by omega]
  have hb : (H.alloc (reps c [.int .i64 0]) ty [(.int .i64 0 : Value)].length).blk H.next = some ⟨List.replicate c (.int .i64 0), ty, 1, false⟩ := by simp [Heap.alloc, reps_c]
  have l : H.Le (H.alloc (reps c [.int .i64 0]) ty [(.int .i64 0 : Value)].length) := ⟨by simp [Heap.alloc], fun b hb => by simp only [Heap.alloc]; rw [if_neg (by omega)]⟩
  exact k _ H.next (h.cons l (bs := [H.next]) ⟨rfl, by simp [Heap.alloc], ty, 1, hb⟩ fun b hb => by simp at hb; omega)

theorem boxSet {L' : List (Atom H0.next)} {b n e i j : Nat} {cs : List Value} {v : Value} {κ : IntKind} (h : Loc H0 L H) [c : AtB L b cs j] [s : SetI L j (.box b (cs.set i v)) L'] (hi : i < n) (hc : isCell v = true) (ho : i < cs.length) (k : ∀ H', Loc H0 L' H' → K undef H') :
    W.indexAddr 1 (.slice (some (adr b 0)) n e) (.int κ i) H fun p H => W.put p v H K :=
  Wi.index hi (by rw [Nat.zero_add, Nat.mul_one]; exact Wl.put h hc ho k)

theorem boxPush {L' : List (Atom H0.next)} {b n e j : Nat} {cs : List Value} {x : Int} {ty ty' : TypeId} (h : Loc H0 L H) [c : AtB L b cs j] [s : SetI L j (.box b (cs.take n ++ [.int .i64 x] ++ cs.drop (n + 1))) L'] (hn : n + 1 ≤ e / 2) (ho : n + 1 ≤ cs.length) (k : ∀ H', Loc H0 L' H' → K (.slice (some (adr b 0)) (n + 1) e) H') :
    W.lit 1 [.int .i64 0] ty' [(0, 1, .int .i64 x)] H fun y H => W.append 1 ty (.slice (some (adr b 0)) n e) y H K := by
  refine Wi.lit (cells := [.int .i64 x]) rfl fun H1 l1 n1 k1 => ?_
  have h1 := h.to l1
  have hsrc : srcCells 1 H1 (.slice (some (adr H.next 0)) 1 (2 * 1)) = some (1, [.int .i64 x]) := by
    show (if (1 : Nat) = 0 then some (0, []) else (H1.getN (adr H.next 0) (1 * 1)).map fun cs => (1, cs)) = _
    rw [if_neg (by decide)]
    simp [Heap.getN, k1]
  have hp := Wl.putN (K := fun _ H' => K (.slice (some (adr b 0)) (n + 1) e) H') (b := b) (cs := cs) (i := j) (o := n) (m := 1) (vs := [.int .i64 x]) h1 rfl rfl ho k
  have hp2 : (match H1.setN (adr b n) [.int .i64 x] with | some H' => K (.slice (some (adr b 0)) (n + 1) e) H' | none => False) := by
    unfold W.putN at hp
    exact hp
  show (match srcCells 1 H1 (.slice (some (adr H.next 0)) 1 (2 * 1)) with | some (m, new) => appendTo 1 ty (.slice (some (adr b 0)) n e) m new K H1 | none => False)
  rw [hsrc]
  show (if n + 1 ≤ e / 2 then (if (1 : Nat) = 0 then K (.slice (some (adr b 0)) n e) H1 else (match H1.setN ((adr b 0).add (n * 1)) [.int .i64 x] with | some H' => K (.slice (some (adr b 0)) (n + 1) e) H' | none => False)) else _)
  rw [if_pos hn, if_neg (by decide), show (adr b 0).add (n * 1) = adr b n by rw [Nat.mul_one]; unfold Addr.add adr; simp; intro e; omega]
  exact hp2

/-- Cells that are numbers, read as a slice. -/
theorem Loc.rowB {b n e i : Nat} {cs : List Value} {xs : List Int} (h : Loc H0 L H) (hi : L[i]? = some (.box b cs)) (hn : n = xs.length) (he : 2 * n ≤ e) (hs : n < 9223372036854775808) (hl : n ≤ cs.length) (hc : ∀ j (hj : j < xs.length), cs[j]? = some (.int .i64 xs[j]) ∧ I64 xs[j]) :
    Loc H0 (L.set i (.data (Rd.slice Rd.int) [.slice (some (adr b 0)) n e] xs)) H := by
  subst hn
  refine h.as hi fun bs hb => ?_
  obtain ⟨rfl, h2, ty, sz, h3⟩ := hb
  refine ⟨[b], ⟨.inr ⟨b, 0, e, _, fun _ => [], by simp, rfl, ⟨h2, h3, he, hs, by simpa [Rd.int] using hl, fun j hj => ?_⟩⟩, by simp, fun c hc kc hk => ?_⟩, fun c hc => hc⟩
  · obtain ⟨g1, g2⟩ := hc j hj
    refine ⟨rfl, ?_, g2⟩
    have hjl : j < cs.length := by omega
    show (cs.drop (0 + j * 1)).take 1 = _
    rw [Nat.zero_add, Nat.mul_one, List.drop_eq_getElem_cons hjl]
    rw [List.getElem?_eq_getElem hjl] at g1
    simp only [Option.some.injEq] at g1
    rw [g1]
    rfl
  · simp at hc
    subst hc
    rw [h3] at hk
    cases hk
    rfl

end
end Go.Ab
