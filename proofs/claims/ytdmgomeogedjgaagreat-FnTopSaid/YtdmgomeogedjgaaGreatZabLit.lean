/- A list of one owned element written out; slices of empty lists. No program here. -/
import Derived.Test.YtdmgomeogedjgaaGreatZabG5
import Derived.Test.YtdmgomeogedjgaaGreatZabOne
namespace Go.Ab

section
variable {H0 H : Heap} {L : List (Atom H0.next)} {K : Post}

theorem litOwn {α : Type} {r : Rd α} (hr : r.n = 1) {ty : TypeId} {u zv : Value} {x : α} {j : Nat} (h : Loc H0 L H) (hj : L[j]? = some (.data r [u] x)) (hcu : cellsA u = some [u])
    (k : ∀ H' v', Loc H0 (.grow r ty v' [x] :: L.set j .emp) H' → K v' H') : W.lit 1 [zv] ty [(0, 1, u)] H K := by
  have h' := h.nilG r ty
  obtain ⟨bs, cs, p1, ⟨q1, q2, q3⟩, hd, _, hlow, up⟩ := h'.upd2 (i := 0) (j := j + 1) rfl (by simpa using hj) (by omega)
  have hcs : ∀ c ∈ cs, c < H.next := r.low q1
  refine Wi.lit (cells := [u]) (by simp [fillA, hcu, reps]) fun H1 l1 n1 k1 => k H1 _ ?_
  have := up H1 (.grow r ty (.slice (some (adr H.next 0)) 1 2) [x]) (H.next :: cs) (by omega) (fun c hc _ _ => l1.blk c hc) (.inr ⟨H.next, 2, _, fun _ => cs, rfl, rfl, by simp, ?_, fun c hc kc hk => ?_, ⟨by omega, k1, by simp, by simp, by simp [hr], fun i hi => ?_⟩, rfl, by simp [hr], by simp [hr], ?_⟩) fun c hc => ?_
  · simpa using this
  · rw [List.nodup_cons]
    exact ⟨fun g => by have := hcs _ g; omega, q2⟩
  · rcases List.mem_cons.1 hc with g | g
    · subst g
      rw [k1] at hk
      cases hk
      rfl
    · rw [l1.blk c (hcs c g)] at hk
      exact q3 c g kc hk
  · have : i = 0 := by simp at hi; omega
    subst this
    have e : cellsAt r.n [u] 0 0 = [u] := by rw [hr]; rfl
    rw [e]
    exact r.frame q1 l1.next fun c hc => l1.blk c (hcs c hc)
  · have := r.cell q1
    simpa using this
  · rcases List.mem_cons.1 hc with g | g
    · subst g; exact .inr (.inr (Nat.le_refl _))
    · exact .inr (.inl g)

/-- What a part of an empty list is. -/
def Emp (w : Value) : Prop := w = .slice none 0 0 ∨ w = .slice none 0 1 ∨ ∃ a, w = .slice (some a) 0 0

theorem Loc.empA {α : Type} (r : Rd α) {w : Value} (h : Loc H0 L H) (hw : Emp w) : Loc H0 (.data (Rd.slice r) [w] [] :: L) H :=
  h.add (f := ⟨.refl _, [], .inl ⟨rfl, rfl, hw.imp (congrArg fun x => [x]) (Or.imp (congrArg fun x => [x]) fun ⟨a, e⟩ => ⟨a, by rw [e]⟩)⟩, List.nodup_nil, (fun c hc => by cases hc), fun c hc => by cases hc⟩)

theorem cut_emp {α : Type} {r : Rd α} {ty : TypeId} {v : Value} {j : Nat} (h : Loc H0 L H) (hj : L[j]? = some (.grow r ty v ([] : List α))) (k : ∀ w, Emp w → K w H) : W.slice 1 v (some (.int .i64 0)) none H K ∧ W.slice 1 v none (some (.int .i64 0)) H K := by
  obtain ⟨bs, p, _⟩ := h.upd hj
  rcases p with ⟨rfl, _, _⟩ | ⟨b, e, kb, fs, rfl, he, _⟩
  · exact ⟨⟨by omega, by omega, by simp, k _ (.inl rfl)⟩, ⟨by omega, by omega, by simp, k _ (.inl rfl)⟩⟩
  · have he0 : e / 2 = 0 := he
    have c : (if (0 : Int).toNat = e / 2 then (if e % 2 = 0 then K (.slice (some (adr b 0)) 0 0) H else K (.slice none 0 1) H) else True) := by
      rw [if_pos (by simpa using he0.symm)]
      split
      · exact k _ (.inr (.inr ⟨_, rfl⟩))
      · exact k _ (.inr (.inl rfl))
    rw [if_pos (by simpa using he0.symm)] at c
    constructor
    · unfold W.slice
      refine ⟨by omega, by simp only [List.length_nil]; omega, by simp only [List.length_nil]; omega, ?_⟩
      show (if (0 : Int).toNat = e / 2 then _ else _)
      rw [if_pos (by simpa using he0.symm)]
      exact c
    · unfold W.slice
      refine ⟨by omega, by omega, by omega, ?_⟩
      show (if (0 : Int).toNat = e / 2 then _ else _)
      rw [if_pos (by simpa using he0.symm)]
      exact c

end
end Go.Ab
