/- What a call has for itself: things in blocks of their own, each told by an atom; and how words go over them. -/
import Derived.Test.YtdbdmlfnggbdiaaZabUpd
namespace Go.Ab

/-- It reads so, whatever its blocks. -/
def Has {α : Type} (r : Rd α) (H : Heap) (cs : List Value) (x : α) : Prop := ∃ bs, r.rel H bs cs x

theorem Has.le {α : Type} {r : Rd α} {H H' : Heap} {cs : List Value} {x : α} (h : Has r H cs x) (l : H.Le H') : Has r H' cs x := let ⟨bs, h⟩ := h; ⟨bs, Rd.le _ h l⟩
theorem Fresh.read {α : Type} {r : Rd α} {H H' : Heap} {cs : List Value} {x : α} (f : Fresh r H cs x H') : Has r H' cs x := let ⟨bs, h, _⟩ := f.has; ⟨bs, h⟩

/-- A thing: what it says of the heap, and which blocks are its own. Blocks below n are those that were there. -/
structure Atom (n : Nat) where
  P : Heap → List Nat → Prop
  low : ∀ {H bs}, P H bs → ∀ b ∈ bs, b < H.next
  frame : ∀ {H H' bs}, P H bs → n ≤ H.next → H.next ≤ H'.next → (∀ b, b < n ∨ b ∈ bs → H'.blk b = H.blk b) → P H' bs

section
variable {n : Nat}

/-- Something that was made, and may be written. -/
def Atom.data {α : Type} (r : Rd α) (cs : List Value) (x : α) : Atom n where
  P := fun H bs => r.rel H bs cs x ∧ bs.Nodup ∧ RW H bs
  low := fun h => r.low h.1
  frame := fun h _ hn hb => ⟨r.frame h.1 hn fun b hm => hb b (.inr hm), h.2.1, fun c hc kc hk => h.2.2 c hc kc (by rw [← hb c (.inr hc)]; exact hk)⟩

/-- Something that was there. -/
def Atom.lent {α : Type} (r : Rd α) (cs : List Value) (x : α) : Atom n where
  P := fun H bs => bs = [] ∧ ∃ bs', r.rel H bs' cs x ∧ ∀ b ∈ bs', b < n
  low := by rintro H bs ⟨rfl, _⟩ b hb; cases hb
  frame := by rintro H H' bs ⟨rfl, bs', h, hl⟩ _ hn hb; exact ⟨rfl, bs', r.frame h hn fun b hm => hb b (.inl (hl b hm)), hl⟩

/-- A variable. -/
def Atom.box (b : Nat) (cs : List Value) : Atom n where
  P := fun H bs => bs = [b] ∧ b < H.next ∧ ∃ ty e, H.blk b = some ⟨cs, ty, e, false⟩
  low := by rintro H bs ⟨rfl, h, _⟩ c hc; simp at hc; omega
  frame := by
    rintro H H' bs ⟨rfl, h, ty, e, hb⟩ _ hn hs
    exact ⟨rfl, by omega, ty, e, by rw [hs b (.inr (by simp))]; exact hb⟩

/-- A variable of the caller. -/
def Atom.lbox (b : Nat) (cs : List Value) : Atom n where
  P := fun H bs => bs = [] ∧ b < n ∧ ∃ kb, H.blk b = some kb ∧ kb.cells = cs
  low := by rintro H bs ⟨rfl, _⟩ b hb; cases hb
  frame := by
    rintro H H' bs ⟨rfl, h, kb, hb, hc⟩ _ hn hs
    exact ⟨rfl, h, kb, by rw [hs b (.inl h)]; exact hb, hc⟩

/-- Nothing. -/
def Atom.emp : Atom n where
  P := fun _ bs => bs = []
  low := by rintro H bs rfl b hb; cases hb
  frame := fun h _ _ _ => h

/-- A slice that has all its room in use; it may grow. -/
def Atom.grow {α : Type} (r : Rd α) (ty : TypeId) (v : Value) (xs : List α) : Atom n where
  P := fun H bs => (v = .slice none 0 0 ∧ xs = [] ∧ bs = []) ∨ ∃ (b e : Nat) (kb : Blk) (fs : Nat → List Nat), v = .slice (some (adr b 0)) xs.length e ∧ e / 2 = xs.length ∧ bs = b :: (List.range xs.length).flatMap fs ∧ bs.Nodup ∧ RW H bs ∧
    SlAt r H b 0 e kb fs xs ∧ kb.ty = ty ∧ kb.esz = r.n ∧ kb.cells.length = xs.length * r.n ∧ kb.cells.all isCell = true
  low := by
    rintro H bs (⟨_, _, rfl⟩ | ⟨b, e, kb, fs, _, _, rfl, _, _, s, _⟩) c hc
    · cases hc
    · rw [List.mem_cons, List.mem_flatMap] at hc
      rcases hc with rfl | ⟨i, hi, hc⟩
      · exact s.lt
      · exact r.low (s.each i (by simpa using hi)) c hc
  frame := by
    rintro H H' bs (⟨h1, h2, rfl⟩ | ⟨b, e, kb, fs, h1, h2, rfl, h4, h5, s, h6, h7, h8, h9⟩) _ hn hb
    · exact .inl ⟨h1, h2, rfl⟩
    · have hm : ∀ i, i < xs.length → ∀ c ∈ fs i, H'.blk c = H.blk c := fun i hi c hc => hb c (.inr (by rw [List.mem_cons, List.mem_flatMap]; exact .inr ⟨i, by simpa using hi, hc⟩))
      have hbb : H'.blk b = H.blk b := hb b (.inr (by simp))
      refine .inr ⟨b, e, kb, fs, h1, h2, rfl, h4, fun c hc kc hk => h5 c hc kc (by rw [← hb c (.inr hc)]; exact hk), ⟨Nat.lt_of_lt_of_le s.lt hn, by rw [hbb]; exact s.blk, s.cap, s.small, s.room, fun i hi => r.frame (s.each i hi) hn fun c hc => hm i hi c hc⟩, h6, h7, h8, h9⟩
end

/-- The things that a call has, each in blocks of its own, none of which was there; all that was is as it was. -/
structure Loc (H0 : Heap) (L : List (Atom H0.next)) (H : Heap) : Prop where
  le : H0.Le H
  has : ∃ F : Nat → List Nat, (∀ i a, L[i]? = some a → a.P H (F i) ∧ ∀ b ∈ F i, H0.next ≤ b) ∧ ∀ i j a c, i ≠ j → L[i]? = some a → L[j]? = some c → ∀ b ∈ F i, b ∉ F j

section
variable {H0 H H' : Heap} {L : List (Atom H0.next)}

theorem Loc.start (H : Heap) : Loc H [] H := ⟨.refl _, fun _ => [], (fun i a h => by simp at h), fun i j a c _ h => by simp at h⟩

/-- One thing changes. -/
theorem Loc.upd (h : Loc H0 L H) {i : Nat} {a : Atom H0.next} (hi : L[i]? = some a) : ∃ bs, a.P H bs ∧ (∀ b ∈ bs, H0.next ≤ b) ∧
    ∀ H' (a' : Atom H0.next) bs', H.next ≤ H'.next → (∀ c, c < H.next → c ∉ bs → H'.blk c = H.blk c) → a'.P H' bs' → (∀ c ∈ bs', c ∈ bs ∨ H.next ≤ c) → Loc H0 (L.set i a') H' := by
  obtain ⟨le, F, h1, h2⟩ := h
  obtain ⟨p, q⟩ := h1 i a hi
  refine ⟨F i, p, q, fun H' a' bs' hn hb p' hs => ⟨⟨Nat.le_trans le.next hn, fun b hb0 => ?_⟩, fun j => if j = i then bs' else F j, fun j c hj => ?_, fun j k c d hjk hj hk b hbj hbk => ?_⟩⟩
  · rw [hb b (Nat.lt_of_lt_of_le hb0 le.next) fun hm => by have := q b hm; omega, le.blk b hb0]
  · by_cases hji : j = i
    · subst hji
      have : c = a' := by
        rw [List.getElem?_set_self (List.getElem?_eq_some_iff.1 hi).1] at hj
        exact (Option.some.inj hj).symm
      subst this
      simp only [if_true]
      refine ⟨p', fun b hb' => ?_⟩
      rcases hs b hb' with hs | hs
      · exact q b hs
      · exact Nat.le_trans le.next hs
    · rw [List.getElem?_set_ne (fun e => hji e.symm)] at hj
      simp only [if_neg hji]
      obtain ⟨p1, q1⟩ := h1 j c hj
      refine ⟨c.frame p1 le.next hn fun b hb' => ?_, q1⟩
      rcases hb' with hb' | hb'
      · exact hb b (Nat.lt_of_lt_of_le hb' le.next) fun hm => by have := q b hm; omega
      · exact hb b (c.low p1 b hb') (h2 j i c a hji hj hi b hb')
  · have hjL : ∀ j c, j ≠ i → (L.set i a')[j]? = some c → L[j]? = some c := fun j c hji hj => by rw [List.getElem?_set_ne (fun e => hji e.symm)] at hj; exact hj
    by_cases hji : j = i
    · subst hji
      have hki : k ≠ j := fun e => hjk e.symm
      simp only [if_true] at hbj
      simp only [if_neg hki] at hbk
      have hk' := hjL k d hki hk
      rcases hs b hbj with hs | hs
      · exact h2 j k a d hjk hi hk' b hs hbk
      · have := d.low (h1 k d hk').1 b hbk; omega
    · simp only [if_neg hji] at hbj
      have hj' := hjL j c hji hj
      by_cases hki : k = i
      · subst hki
        simp only [if_true] at hbk
        rcases hs b hbk with hs | hs
        · exact h2 j k c a hjk hj' hi b hbj hs
        · have := c.low (h1 j c hj').1 b hbj; omega
      · simp only [if_neg hki] at hbk
        exact h2 j k c d hjk hj' (hjL k d hki hk) b hbj hbk

/-- One thing more. -/
theorem Loc.cons (h : Loc H0 L H) (l : H.Le H') {a : Atom H0.next} {bs : List Nat} (p : a.P H' bs) (hb : ∀ b ∈ bs, H.next ≤ b) : Loc H0 (a :: L) H' := by
  obtain ⟨le, F, h1, h2⟩ := h
  refine ⟨le.trans l, fun j => match j with | 0 => bs | j + 1 => F j, fun j c hj => ?_, fun j k c d hjk hj hk b hbj hbk => ?_⟩
  · cases j with
    | zero =>
      simp only [List.getElem?_cons_zero, Option.some.injEq] at hj
      subst hj
      exact ⟨p, fun b hm => Nat.le_trans le.next (hb b hm)⟩
    | succ j =>
      simp only [List.getElem?_cons_succ] at hj
      obtain ⟨p1, q1⟩ := h1 j c hj
      refine ⟨c.frame p1 le.next l.next fun b hb' => l.blk b ?_, q1⟩
      rcases hb' with hb' | hb'
      · exact Nat.lt_of_lt_of_le hb' le.next
      · exact c.low p1 b hb'
  · cases j with
    | zero =>
      cases k with
      | zero => exact hjk rfl
      | succ k =>
        simp only [List.getElem?_cons_succ] at hk
        have := d.low (h1 k d hk).1 b hbk
        have := hb b hbj
        omega
    | succ j =>
      simp only [List.getElem?_cons_succ] at hj
      cases k with
      | zero =>
        have := c.low (h1 j c hj).1 b hbj
        have := hb b hbk
        omega
      | succ k =>
        simp only [List.getElem?_cons_succ] at hk
        exact h2 j k c d (by omega) hj hk b hbj hbk

/-- All stays. -/
theorem Loc.to (h : Loc H0 L H) (l : H.Le H') : Loc H0 L H' := by
  obtain ⟨le, F, h1, h2⟩ := h
  refine ⟨le.trans l, F, fun i a hi => ?_, h2⟩
  obtain ⟨p, q⟩ := h1 i a hi
  refine ⟨a.frame p le.next l.next fun b hb => l.blk b ?_, q⟩
  rcases hb with hb | hb
  · exact Nat.lt_of_lt_of_le hb le.next
  · exact a.low p b hb

theorem Loc.tl {a : Atom H0.next} (h : Loc H0 (a :: L) H) : Loc H0 L H := by
  obtain ⟨le, F, h1, h2⟩ := h
  exact ⟨le, fun i => F (i + 1), fun i a hi => h1 (i + 1) a (by simpa using hi), fun i j a c hij hi hj => h2 (i + 1) (j + 1) a c (by omega) (by simpa using hi) (by simpa using hj)⟩

/-- A thing forgotten, its place kept. -/
theorem Loc.off (h : Loc H0 L H) {i : Nat} {a : Atom H0.next} (hi : L[i]? = some a) : Loc H0 (L.set i .emp) H := by
  obtain ⟨bs, _, _, k⟩ := h.upd hi
  exact k H .emp [] (Nat.le_refl _) (fun _ _ _ => rfl) rfl (fun c hc => by cases hc)

/-- Another way to tell of a thing. -/
theorem Loc.as (h : Loc H0 L H) {i : Nat} {a a' : Atom H0.next} (hi : L[i]? = some a) (hp : ∀ bs, a.P H bs → ∃ bs', a'.P H bs' ∧ ∀ c ∈ bs', c ∈ bs) : Loc H0 (L.set i a') H := by
  obtain ⟨bs, p, _, k⟩ := h.upd hi
  obtain ⟨bs', p', hs⟩ := hp bs p
  exact k H a' bs' (Nat.le_refl _) (fun _ _ _ => rfl) p' fun c hc => .inl (hs c hc)

/-- Two things: the first changes, and takes the second one into itself. -/
theorem Loc.upd2 (h : Loc H0 L H) {i j : Nat} {a c : Atom H0.next} (hi : L[i]? = some a) (hj : L[j]? = some c) (hij : i ≠ j) : ∃ bs cs, a.P H bs ∧ c.P H cs ∧ (∀ b ∈ bs, b ∉ cs) ∧ (∀ b ∈ bs, H0.next ≤ b) ∧ (∀ b ∈ cs, H0.next ≤ b) ∧
    ∀ H' (a' : Atom H0.next) bs', H.next ≤ H'.next → (∀ c, c < H.next → c ∉ bs → c ∉ cs → H'.blk c = H.blk c) → a'.P H' bs' → (∀ c ∈ bs', c ∈ bs ∨ c ∈ cs ∨ H.next ≤ c) → Loc H0 ((L.set i a').set j .emp) H' := by
  obtain ⟨le, F, h1, h2⟩ := h
  obtain ⟨p, q⟩ := h1 i a hi
  obtain ⟨p2, q2⟩ := h1 j c hj
  refine ⟨F i, F j, p, p2, h2 i j a c hij hi hj, q, q2, fun H' a' bs' hn hb p' hs => ⟨⟨Nat.le_trans le.next hn, fun b hb0 => ?_⟩, fun k => if k = j then [] else if k = i then bs' else F k, fun k d hk => ?_, ?_⟩⟩
  · rw [hb b (Nat.lt_of_lt_of_le hb0 le.next) (fun hm => by have := q b hm; omega) (fun hm => by have := q2 b hm; omega), le.blk b hb0]
  · by_cases hkj : k = j
    · subst hkj
      rw [List.getElem?_set_self (by rw [List.length_set]; exact (List.getElem?_eq_some_iff.1 hj).1)] at hk
      cases hk
      simp only [if_true]
      exact ⟨rfl, fun b hb => by cases hb⟩
    · rw [List.getElem?_set_ne (fun e => hkj e.symm)] at hk
      simp only [if_neg hkj]
      by_cases hki : k = i
      · subst hki
        rw [List.getElem?_set_self (List.getElem?_eq_some_iff.1 hi).1] at hk
        cases hk
        simp only [if_true]
        refine ⟨p', fun b hb' => ?_⟩
        rcases hs b hb' with hs | hs | hs
        · exact q b hs
        · exact q2 b hs
        · exact Nat.le_trans le.next hs
      · rw [List.getElem?_set_ne (fun e => hki e.symm)] at hk
        simp only [if_neg hki]
        obtain ⟨p1, q1⟩ := h1 k d hk
        refine ⟨d.frame p1 le.next hn fun b hb' => ?_, q1⟩
        rcases hb' with hb' | hb'
        · exact hb b (Nat.lt_of_lt_of_le hb' le.next) (fun hm => by have := q b hm; omega) (fun hm => by have := q2 b hm; omega)
        · exact hb b (d.low p1 b hb') (h2 k i d a hki hk hi b hb') (h2 k j d c hkj hk hj b hb')
  · intro k m d f hkm hk hm b hbk hbm
    by_cases hkj : k = j
    · simp only [if_pos hkj] at hbk; cases hbk
    by_cases hmj : m = j
    · simp only [if_pos hmj] at hbm; cases hbm
    rw [List.getElem?_set_ne (fun e => hkj e.symm)] at hk
    rw [List.getElem?_set_ne (fun e => hmj e.symm)] at hm
    simp only [if_neg hkj] at hbk
    simp only [if_neg hmj] at hbm
    by_cases hki : k = i
    · have hmi : m ≠ i := fun e => hkm (hki.trans e.symm)
      simp only [if_pos hki] at hbk
      simp only [if_neg hmi] at hbm
      rw [List.getElem?_set_ne (fun e => hmi e.symm)] at hm
      rcases hs b hbk with hs | hs | hs
      · exact h2 i m a f (fun e => hmi e.symm) hi hm b hs hbm
      · exact h2 j m c f (fun e => hmj e.symm) hj hm b hs hbm
      · have := f.low (h1 m f hm).1 b hbm; omega
    · rw [List.getElem?_set_ne (fun e => hki e.symm)] at hk
      simp only [if_neg hki] at hbk
      by_cases hmi : m = i
      · simp only [if_pos hmi] at hbm
        rcases hs b hbm with hs | hs | hs
        · exact h2 k i d a hki hk hi b hbk hs
        · exact h2 k j d c hkj hk hj b hbk hs
        · have := d.low (h1 k d hk).1 b hbk; omega
      · simp only [if_neg hmi] at hbm
        rw [List.getElem?_set_ne (fun e => hmi e.symm)] at hm
        exact h2 k m d f hkm hk hm b hbk hbm

end

/-! ### Which thing it is -/
section
variable {n : Nat}

class AtV (L : List (Atom n)) (cs : List Value) (a : outParam (Atom n)) (i : outParam Nat) : Prop where get : L[i]? = some a
instance {α : Type} {r : Rd α} {cs : List Value} {x : α} {L : List (Atom n)} : AtV (.data r cs x :: L) cs (.data r cs x) 0 := ⟨rfl⟩
instance {α : Type} {r : Rd α} {cs : List Value} {x : α} {L : List (Atom n)} : AtV (.lent r cs x :: L) cs (.lent r cs x) 0 := ⟨rfl⟩
instance {α : Type} {r : Rd α} {v : Value} {x : List α} {ty : TypeId} {L : List (Atom n)} : AtV (.grow r ty v x :: L) [v] (.grow r ty v x) 0 := ⟨rfl⟩
instance {cs : List Value} {L : List (Atom n)} {a c : Atom n} {i : Nat} [h : AtV L cs a i] : AtV (c :: L) cs a (i + 1) := ⟨by simpa using h.get⟩

class AtB (L : List (Atom n)) (b : Nat) (cs : outParam (List Value)) (i : outParam Nat) : Prop where get : L[i]? = some (.box b cs)
instance {b : Nat} {cs : List Value} {L : List (Atom n)} : AtB (.box b cs :: L) b cs 0 := ⟨rfl⟩
instance {b : Nat} {cs : List Value} {L : List (Atom n)} {c : Atom n} {i : Nat} [h : AtB L b cs i] : AtB (c :: L) b cs (i + 1) := ⟨by simpa using h.get⟩

/-- A variable's cells, one's own or the caller's. -/
class RdB (L : List (Atom n)) (b : Nat) (cs : outParam (List Value)) : Prop where get : (Atom.box b cs) ∈ L ∨ (Atom.lbox b cs) ∈ L
instance {b : Nat} {cs : List Value} {L : List (Atom n)} : RdB (.box b cs :: L) b cs := ⟨.inl (by simp)⟩
instance {b : Nat} {cs : List Value} {L : List (Atom n)} : RdB (.lbox b cs :: L) b cs := ⟨.inr (by simp)⟩
instance {b : Nat} {cs : List Value} {L : List (Atom n)} {c : Atom n} [h : RdB L b cs] : RdB (c :: L) b cs := ⟨h.get.imp (List.mem_cons_of_mem _) (List.mem_cons_of_mem _)⟩

class SetI (L : List (Atom n)) (i : Nat) (a : Atom n) (L' : outParam (List (Atom n))) : Prop where eq : L' = L.set i a
instance {L : List (Atom n)} {a c : Atom n} : SetI (c :: L) 0 a (a :: L) := ⟨rfl⟩
instance {L L' : List (Atom n)} {a c : Atom n} {i : Nat} [h : SetI L i a L'] : SetI (c :: L) (i + 1) a (c :: L') := ⟨by rw [h.eq]; rfl⟩

/-- What reads as a value: what was made, or what was there. -/
class RdV {α : outParam Type} (L : List (Atom n)) (cs : List Value) (r : outParam (Rd α)) (x : outParam α) : Prop where get : ∃ a ∈ L, ∀ H bs, a.P H bs → Has r H cs x
end

end Go.Ab
