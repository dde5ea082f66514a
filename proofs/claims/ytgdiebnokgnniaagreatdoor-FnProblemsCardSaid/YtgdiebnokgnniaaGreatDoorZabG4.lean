/- What a call has for itself: things in blocks of their own, each told by an atom; and how words go over them. -/
import Derived.Test.YtgdiebnokgnniaaGreatDoorZabG3
namespace Go.Ab

/-- It reads so, whatever its blocks. -/
def Has {α : Type} (r : Rd α) (H : Heap) (cs : List Value) (x : α) : Prop := ∃ bs, r.rel H bs cs x

theorem Has.le {α : Type} {r : Rd α} {H H' : Heap} {cs : List Value} {x : α} (h : Has r H cs x) (l : H.Le H') : Has r H' cs x := let ⟨bs, h⟩ := h; ⟨bs, Rd.le _ h l⟩
theorem Fresh.read {α : Type} {r : Rd α} {H H' : Heap} {cs : List Value} {x : α} (f : Fresh r H cs x H') : Has r H' cs x := let ⟨bs, h, _⟩ := f.has; ⟨bs, h⟩

/-- A thing: what it says of the heap, and which blocks are its own. Blocks below n are those that were there. -/
structure Atom (n : Nat) where
  P : Heap → List Nat → Prop
  low : ∀ {H bs}, P H bs → ∀ b ∈ bs, b < H.next
  frame : ∀ {H H' bs}, P H bs → n ≤ H.next → H.next ≤ H'.next → (∀ b, b < n ∨ b ∈ bs → H'.blk b = H.blk b) → P H' bs

section
variable {n : Nat}

/-- Something that was made, and may be written. -/
def Atom.data {α : Type} (r : Rd α) (cs : List Value) (x : α) : Atom n where
  P := fun H bs => r.rel H bs cs x ∧ bs.Nodup ∧ RW H bs
  low := fun h => r.low h.1
  frame := fun h _ hn hb => ⟨r.frame h.1 hn fun b hm => hb b (.inr hm), h.2.1, fun c hc kc hk => h.2.2 c hc kc (by rw [← hb c (.inr hc)]; exact hk)⟩

/-- Something that was there. -/
def Atom.lent {α : Type} (r : Rd α) (cs : List Value) (x : α) : Atom n where
  P := fun H bs => bs = [] ∧ ∃ bs', r.rel H bs' cs x ∧ ∀ b ∈ bs', b < n
  low := by rintro H bs ⟨rfl, _⟩ b hb; cases hb
  frame := by rintro H H' bs ⟨rfl, bs', h, hl⟩ _ hn hb; exact ⟨rfl, bs', r.frame h hn fun b hm => hb b (.inl (hl b hm)), hl⟩

/-- A variable. -/
def Atom.box (b : Nat) (cs : List Value) : Atom n where
  P := fun H bs => bs = [b] ∧ b < H.next ∧ ∃ ty e, H.blk b = some ⟨cs, ty, e, false⟩
  low := by rintro H bs ⟨rfl, h, _⟩ c hc; simp at hc; omega
  frame := by
    rintro H H' bs ⟨rfl, h, ty, e, hb⟩ _ hn hs
    exact ⟨rfl, by omega, ty, e, by rw [hs b (.inr (by simp))]; exact hb⟩

/-- A variable of the caller. -/
def Atom.lbox (b : Nat) (cs : List Value) : Atom n where
  P := fun H bs => bs = [] ∧ b < n ∧ ∃ kb, H.blk b = some kb ∧ kb.cells = cs
  low := by rintro H bs ⟨rfl, _⟩ b hb; cases hb
  frame := by
    rintro H H' bs ⟨rfl, h, kb, hb, hc⟩ _ hn hs
    exact ⟨rfl, h, kb, by rw [hs b (.inl h)]; exact hb, hc⟩

/-- Nothing. -/
def Atom.emp : Atom n where
  P := fun _ bs => bs = []
  low := by rintro H bs rfl b hb; cases hb
  frame := fun h _ _ _ => h

/-- A slice that has all its room in use; it may grow. -/
def Atom.grow {α : Type} (r : Rd α) (ty : TypeId) (v : Value) (xs : List α) : Atom n where
  P := fun H bs => (v = .slice none 0 0 ∧ xs = [] ∧ bs = []) ∨ ∃ (b e : Nat) (kb : Blk) (fs : Nat → List Nat), v = .slice (some (adr b 0)) xs.length e ∧ e / 2 = xs.length ∧ bs = b :: (List.range xs.length).flatMap fs ∧ bs.Nodup ∧ RW H bs ∧
    SlAt r H b 0 e kb fs xs ∧ kb.ty = ty ∧ kb.esz = r.n ∧ kb.cells.length = xs.length * r.n ∧ kb.cells.all isCell = true
  low := by
    rintro H bs (⟨_, _, rfl⟩ | ⟨b, e, kb, fs, _, _, rfl, _, _, s, _⟩) c hc
    · cases hc
    · rw [List.mem_cons, List.mem_flatMap] at hc
      rcases hc with rfl | ⟨i, hi, hc⟩
      · exact s.lt
      · exact r.low (s.each i (by simpa using hi)) c hc
  frame := by
    rintro H H' bs (⟨h1, h2, rfl⟩ | ⟨b, e, kb, fs, h1, h2, rfl, h4, h5, s, h6, h7, h8, h9⟩) _ hn hb
    · exact .inl ⟨h1, h2, rfl⟩
    · have hm : ∀ i, i < xs.length → ∀ c ∈ fs i, H'.blk c = H.blk c := fun i hi c hc => hb c (.inr (by rw [List.mem_cons, List.mem_flatMap]; exact .inr ⟨i, by simpa using hi, hc⟩))
      have hbb : H'.blk b = H.blk b := hb b (.inr (by simp))
      refine .inr ⟨b, e, kb, fs, h1, h2, rfl, h4, fun c hc kc hk => h5 c hc kc (by rw [← hb c (.inr hc)]; exact hk), ⟨Nat.lt_of_lt_of_le s.lt hn, by rw [hbb]; exact s.blk, s.cap, s.small, s.room, fun i hi => r.frame (s.each i hi) hn fun c hc => hm i hi c hc⟩, h6, h7, h8, h9⟩
end

/-- The things that a call has, each in blocks of its own, none of which was there; all that was is as it was. -/
structure Loc (H0 : Heap) (L : List (Atom H0.next)) (H : Heap) : Prop where
  le : H0.Le H
  has : ∃ F : Nat → List Nat, (∀ i a, L[i]? = some a → a.P H (F i) ∧ ∀ b ∈ F i, H0.next ≤ b) ∧ ∀ i j a c, i ≠ j → L[i]? = some a → L[j]? = some c → ∀ b ∈ F i, b ∉ F j

section
variable {H0 H H' : Heap} {L : List (Atom H0.next)}

theorem Loc.start (H : Heap) : Loc H [] H := ⟨.refl _, fun _ => [], (fun i a h => by simp at h), fun i j a c _ h => by simp at h⟩

/-- One thing changes. -/
theorem Loc.upd (h : Loc H0 L H) {i : Nat} {a : Atom H0.next} (hi : L[i]? = some a) : ∃ bs, a.P H bs ∧ (∀ b ∈ bs, H0.next ≤ b) ∧
    ∀ H' (a' : Atom H0.next) bs', H.next ≤ H'.next → (∀ c, c < H.next → c ∉ bs → H'.blk c = H.blk c) → a'.P H' bs' → (∀ c ∈ bs', c ∈ bs ∨ H.next ≤ c) → Loc H0 (L.set i a') H' := by
  obtain ⟨le, F, h1, h2⟩ := h
  obtain ⟨p, q⟩ := h1 i a hi
  refine ⟨F i, p, q, fun H' a' bs' hn hb p' hs => ⟨⟨Nat.le_trans le.next hn, fun b hb0 => ?_⟩, fun j => if j = i then bs' else F j, fun j c hj => ?_, fun j k c d hjk hj hk b hbj hbk => ?_⟩⟩
  · rw [hb b (Nat.lt_of_lt_of_le hb0 le.next) fun hm => by have := q b hm; omega, le.blk b hb0]
  · by_cases hji : j = i
    · subst hji
      have : c = a' := by
        rw [List.getElem?_set_self (List.getElem?_eq_some_iff.1 hi).1] at hj
        exact (Option.some.inj hj).symm
      subst this
      simp only [if_true]
      refine ⟨p', fun b hb' => ?_⟩
      rcases hs b hb' with hs | hs
      · exact q b hs
      · exact Nat.le_trans le.next hs
    · rw [List.getElem?_set_ne (fun e => hji e.symm)] at hj
      simp only [if_neg hji]
      obtain ⟨p1, q1⟩ := h1 j c hj
      refine ⟨c.frame p1 le.next hn fun b hb' => ?_, q1⟩
      rcases hb' with hb' | hb'
      · exact hb b (Nat.lt_of_lt_of_le hb' le.next) fun hm => by have := q b hm; omega
      · exact hb b (c.low p1 b hb') (h2 j i c a hji hj hi b hb')
  · have hjL : ∀ j c, j ≠ i → (L.set i a')[j]? = some c → L[j]? = some c := fun j c hji hj => by rw [List.getElem?_set_ne (fun e => hji e.symm)] at hj; exact hj
    by_cases hji : j = i
    · subst hji
      have hki : k ≠ j := fun e => hjk e.symm
      simp only [if_true] at hbj
      simp only [if_neg hki] at hbk
      have hk' := hjL k d hki hk
      rcases hs b hbj with hs | hs
      · exact h2 j k a d hjk hi hk' b hs hbk
      · have := d.low (h1 k d hk').1 b hbk; omega
    · simp only [if_neg hji] at hbj
      have hj' := hjL j c hji hj
      by_cases hki : k = i
      · subst hki
        simp only [if_true] at hbk
        rcases hs b hbk with hs | hs
        · exact h2 j k c a hjk hj' hi b hbj hs
        · have := c.low (h1 j c hj').1 b hbj; omega
      · simp only [if_neg hki] at hbk
        exact h2 j k c d hjk hj' (hjL k d hki hk) b hbj hbk

/-- One thing more. -/
theorem Loc.cons (h : Loc H0 L H) (l : H.Le H') {a : Atom H0.next} {bs : List Nat} (p : a.P H' bs) (hb : ∀ b ∈ bs, H.next ≤ b) : Loc H0 (a :: L) H' := by
  obtain ⟨le, F, h1, h2⟩ := h
  refine ⟨le.trans l, fun j => match j with | 0 => bs | j + 1 => F j, fun j c hj => ?_, fun j k c d hjk hj hk b hbj hbk => ?_⟩
  · cases j with
    | zero =>
      simp only [List.getElem?_cons_zero, Option.some.injEq] at hj
      subst hj
      exact ⟨p, fun b hm => Nat.le_trans le.next (hb b hm)⟩
    | succ j =>
      simp only [List.getElem?_cons_succ] at hj
      obtain ⟨p1, q1⟩ := h1 j c hj
      refine ⟨c.frame p1 le.next l.next fun b hb' => l.blk b ?_, q1⟩
      rcases hb' with hb' | hb'
      · exact Nat.lt_of_lt_of_le hb' le.next
      · exact c.low p1 b hb'
  · cases j with
    | zero =>
      cases k with
      | zero => exact hjk rfl
      | succ k =>
        simp only [List.getElem?_cons_succ] at hk
        have := d.low (h1 k d hk).1 b hbk
        have := hb b hbj
        omega
    | succ j =>
      simp only [List.getElem?_cons_succ] at hj
      cases k with
      | zero =>
        have := c.low (h1 j c hj).1 b hbj
        have := hb b hbk
        omega
      | succ k =>
        simp only [List.getElem?_cons_succ] at hk
        exact h2 j k c d (by omega) hj hk b hbj hbk

/-- All stays. -/
theorem Loc.to (h : Loc H0 L H) (l : H.Le H') : Loc H0 L H' := by
  obtain ⟨le, F, h1, h2⟩ := h
  refine ⟨le.trans l, F, fun i a hi => ?_, h2⟩
  obtain ⟨p, q⟩ := h1 i a hi
  refine ⟨a.frame p le.next l.next fun b hb => l.blk b ?_, q⟩
  rcases hb with hb | hb
  · exact Nat.lt_of_lt_of_le hb le.next
  · exact a.low p b hb

theorem Loc.tl {a : Atom H0.next} (h : Loc H0 (a :: L) H) : Loc H0 L H := by
  obtain ⟨le, F, h1, h2⟩ := h
  exact ⟨le, fun i => F (i + 1), fun i a hi => h1 (i + 1) a (by simpa using hi), fun i j a c hij hi hj => h2 (i + 1) (j + 1) a c (by omega) (by simpa using hi) (by simpa using hj)⟩

/-- Another way to tell of a thing. -/
theorem Loc.as (h : Loc H0 L H) {i : Nat} {a a' : Atom H0.next} (hi : L[i]? = some a) (hp : ∀ bs, a.P H bs → ∃ bs', a'.P H bs' ∧ ∀ c ∈ bs', c ∈ bs) : Loc H0 (L.set i a') H := by
  obtain ⟨bs, p, _, k⟩ := h.upd hi
  obtain ⟨bs', p', hs⟩ := hp bs p
  exact k H a' bs' (Nat.le_refl _) (fun _ _ _ => rfl) p' fun c hc => .inl (hs c hc)

/-- Two things: the first changes, and takes the second one into itself. -/
theorem Loc.upd2 (h : Loc H0 L H) {i j : Nat} {a c : Atom H0.next} (hi : L[i]? = some a) (hj : L[j]? = some c) (hij : i ≠ j) : ∃ bs cs, a.P H bs ∧ c.P H cs ∧ (∀ b ∈ bs, b ∉ cs) ∧ (∀ b ∈ bs, H0.next ≤ b) ∧ (∀ b ∈ cs, H0.next ≤ b) ∧
    ∀ H' (a' : Atom H0.next) bs', H.next ≤ H'.next → (∀ c, c < H.next → c ∉ bs → c ∉ cs → H'.blk c = H.blk c) → a'.P H' bs' → (∀ c ∈ bs', c ∈ bs ∨ c ∈ cs ∨ H.next ≤ c) → Loc H0 ((L.set i a').set j .emp) H' := by
  obtain ⟨le, F, h1, h2⟩ := h
  obtain ⟨p, q⟩ := h1 i a hi
  obtain ⟨p2, q2⟩ := h1 j c hj
  refine ⟨F i, F j, p, p2, h2 i j a c hij hi hj, q, q2, fun H' a' bs' hn hb p' hs => ⟨⟨Nat.le_trans le.next hn, fun b hb0 => ?_⟩, fun k => if k = j then [] else if k = i then bs' else F k, fun k d hk => ?_, ?_⟩⟩
  · rw [hb b (Nat.lt_of_lt_of_le hb0 le.next) (fun hm => by have := q b hm; omega) (fun hm => by have := q2 b hm; omega), le.blk b hb0]
  · by_cases hkj : k = j
    · subst hkj
      rw [List.getElem?_set_self (by rw [List.length_set]; exact (List.getElem?_eq_some_iff.1 hj).1)] at hk
      cases hk
      simp only [if_true]
      exact ⟨rfl, fun b hb => by cases hb⟩
    · rw [List.getElem?_set_ne (fun e => hkj e.symm)] at hk
      simp only [if_neg hkj]
      by_cases hki : k = i
      · subst hki
        rw [List.getElem?_set_self (List.getElem?_eq_some_iff.1 hi).1] at hk
        cases hk
        simp only [if_true]
        refine ⟨p', fun b hb' => ?_⟩
        rcases hs b hb' with hs | hs | hs
        · exact q b hs
        · exact q2 b hs
        · exact Nat.le_trans le.next hs
      · rw [List.getElem?_set_ne (fun e => hki e.symm)] at hk
        simp only [if_neg hki]
        obtain ⟨p1, q1⟩ := h1 k d hk
        refine ⟨d.frame p1 le.next hn fun b hb' => ?_, q1⟩
        rcases hb' with hb' | hb'
        · exact hb b (Nat.lt_of_lt_of_le hb' le.next) (fun hm => by have := q b hm; omega) (fun hm => by have := q2 b hm; omega)
        · exact hb b (d.low p1 b hb') (h2 k i d a hki hk hi b hb') (h2 k j d c hkj hk hj b hb')
  · intro k m d f hkm hk hm b hbk hbm
    by_cases hkj : k = j
    · simp only [if_pos hkj] at hbk; cases hbk
    by_cases hmj : m = j
    · simp only [if_pos hmj] at hbm; cases hbm
    rw [List.getElem?_set_ne (fun e => hkj e.symm)] at hk
    rw [List.getElem?_set_ne (fun e => hmj e.symm)] at hm
    simp only [if_neg hkj] at hbk
    simp only [if_neg hmj] at hbm
    by_cases hki : k = i
    · have hmi : m ≠ i := fun e => hkm (hki.trans e.symm)
      simp only [if_pos hki] at hbk
      simp only [if_neg hmi] at hbm
      rw [List.getElem?_set_ne (fun e => hmi e.symm)] at hm
      rcases hs b hbk with hs | hs | hs
      · exact h2 i m a f (fun e => hmi e.symm) hi hm b hs hbm
      · exact h2 j m c f (fun e => hmj e.symm) hj hm b hs hbm
      · have := f.low (h1 m f hm).1 b hbm; omega
    · rw [List.getElem?_set_ne (fun e => hki e.symm)] at hk
      simp only [if_neg hki] at hbk
      by_cases hmi : m = i
      · simp only [if_pos hmi] at hbm
        rcases hs b hbm with hs | hs | hs
        · exact h2 k i d a hki hk hi b hbk hs
        · exact h2 k j d c hkj hk hj b hbk hs
        · have := d.low (h1 k d hk).1 b hbk; omega
      · simp only [if_neg hmi] at hbm
        rw [List.getElem?_set_ne (fun e => hmi e.symm)] at hm
        exact h2 k m d f hkm hk hm b hbk hbm

end

/-! ### Which thing it is -/
section
variable {n : Nat}

class AtV (L : List (Atom n)) (cs : List Value) (a : outParam (Atom n)) (i : outParam Nat) : Prop where get : L[i]? = some a
instance {α : Type} {r : Rd α} {cs : List Value} {x : α} {L : List (Atom n)} : AtV (.data r cs x :: L) cs (.data r cs x) 0 := ⟨rfl⟩
instance {α : Type} {r : Rd α} {cs : List Value} {x : α} {L : List (Atom n)} : AtV (.lent r cs x :: L) cs (.lent r cs x) 0 := ⟨rfl⟩
instance {α : Type} {r : Rd α} {v : Value} {x : List α} {ty : TypeId} {L : List (Atom n)} : AtV (.grow r ty v x :: L) [v] (.grow r ty v x) 0 := ⟨rfl⟩
instance {cs : List Value} {L : List (Atom n)} {a c : Atom n} {i : Nat} [h : AtV L cs a i] : AtV (c :: L) cs a (i + 1) := ⟨by simpa using h.get⟩

class AtB (L : List (Atom n)) (b : Nat) (cs : outParam (List Value)) (i : outParam Nat) : Prop where get : L[i]? = some (.box b cs)
instance {b : Nat} {cs : List Value} {L : List (Atom n)} : AtB (.box b cs :: L) b cs 0 := ⟨rfl⟩
instance {b : Nat} {cs : List Value} {L : List (Atom n)} {c : Atom n} {i : Nat} [h : AtB L b cs i] : AtB (c :: L) b cs (i + 1) := ⟨by simpa using h.get⟩

/-- A variable's cells, one's own or the caller's. -/
class RdB (L : List (Atom n)) (b : Nat) (cs : outParam (List Value)) : Prop where get : (Atom.box b cs) ∈ L ∨ (Atom.lbox b cs) ∈ L
instance {b : Nat} {cs : List Value} {L : List (Atom n)} : RdB (.box b cs :: L) b cs := ⟨.inl (by simp)⟩
instance {b : Nat} {cs : List Value} {L : List (Atom n)} : RdB (.lbox b cs :: L) b cs := ⟨.inr (by simp)⟩
instance {b : Nat} {cs : List Value} {L : List (Atom n)} {c : Atom n} [h : RdB L b cs] : RdB (c :: L) b cs := ⟨h.get.imp (List.mem_cons_of_mem _) (List.mem_cons_of_mem _)⟩

class SetI (L : List (Atom n)) (i : Nat) (a : Atom n) (L' : outParam (List (Atom n))) : Prop where eq : L' = L.set i a
instance {L : List (Atom n)} {a c : Atom n} : SetI (c :: L) 0 a (a :: L) := ⟨rfl⟩
instance {L L' : List (Atom n)} {a c : Atom n} {i : Nat} [h : SetI L i a L'] : SetI (c :: L) (i + 1) a (c :: L') := ⟨by rw [h.eq]; rfl⟩

/-- What reads as a value: what was made, or what was there. -/
class RdV {α : outParam Type} (L : List (Atom n)) (cs : List Value) (r : outParam (Rd α)) (x : outParam α) : Prop where get : ∃ a ∈ L, ∀ H bs, a.P H bs → Has r H cs x
end

end Go.Ab
/-! Words over things. -/
namespace Go.Ab

section
variable {n : Nat}
instance {α : Type} {r : Rd α} {cs : List Value} {x : α} {L : List (Atom n)} : RdV (.data r cs x :: L) cs r x := ⟨_, List.mem_cons_self, fun _ _ h => ⟨_, h.1⟩⟩
instance {α : Type} {r : Rd α} {cs : List Value} {x : α} {L : List (Atom n)} : RdV (.lent r cs x :: L) cs r x := ⟨_, List.mem_cons_self, fun _ _ h => let ⟨_, bs, h, _⟩ := h; ⟨bs, h⟩⟩
instance {α : Type} {r : Rd α} {v : Value} {xs : List α} {ty : TypeId} {L : List (Atom n)} : RdV (.grow r ty v xs :: L) [v] (Rd.slice r) xs := ⟨_, List.mem_cons_self, fun H bs h => by
  rcases h with ⟨rfl, rfl, _⟩ | ⟨b, e, kb, fs, rfl, h2, h3, h4, h5, s, _⟩
  · exact ⟨[], .inl ⟨rfl, rfl, .inl rfl⟩⟩
  · exact ⟨_, .inr ⟨b, 0, e, kb, fs, rfl, rfl, s⟩⟩⟩
instance {α : Type} {r : Rd α} {cs : List Value} {x : α} {L : List (Atom n)} {c : Atom n} [h : RdV L cs r x] : RdV (c :: L) cs r x := ⟨let ⟨a, h1, h2⟩ := h.get; ⟨a, List.mem_cons_of_mem _ h1, h2⟩⟩
end

section
variable {H0 H H' : Heap} {L L' : List (Atom H0.next)} {K : Post}

theorem Loc.mem (h : Loc H0 L H) {a : Atom H0.next} (ha : a ∈ L) : ∃ bs, a.P H bs ∧ ∀ b ∈ bs, H0.next ≤ b := by
  obtain ⟨_, F, h1, _⟩ := h
  obtain ⟨i, hi, rfl⟩ := List.mem_iff_getElem.1 ha
  exact ⟨F i, h1 i _ (List.getElem?_eq_getElem hi)⟩

/-- How a value reads. -/
theorem Loc.rd {α : Type} {r : Rd α} {cs : List Value} {x : α} (h : Loc H0 L H) [c : RdV L cs r x] : Has r H cs x := by
  obtain ⟨a, h1, h2⟩ := c.get
  obtain ⟨bs, p, _⟩ := h.mem h1
  exact h2 H bs p

theorem Loc.bx {b : Nat} {cs : List Value} (h : Loc H0 L H) [c : RdB L b cs] : b < H.next ∧ ∃ kb, H.blk b = some kb ∧ kb.cells = cs := by
  rcases c.get with hm | hm
  · obtain ⟨bs, ⟨_, h1, ty, e, h2⟩, _⟩ := h.mem hm
    exact ⟨h1, _, h2, rfl⟩
  · obtain ⟨bs, ⟨_, h1, kb, h2, h3⟩, _⟩ := h.mem hm
    exact ⟨Nat.lt_of_lt_of_le h1 h.le.next, kb, h2, h3⟩

/-- What was there is lent. -/
theorem Loc.lent {α : Type} {r : Rd α} {cs : List Value} {x : α} (h : Loc H0 L H) (hr : Has r H0 cs x) : Loc H0 (.lent r cs x :: L) H := by
  obtain ⟨bs, hr⟩ := hr
  exact h.cons (.refl _) (bs := []) ⟨rfl, bs, Rd.le _ hr h.le, r.low hr⟩ fun b hb => by cases hb

theorem Loc.add {α : Type} {r : Rd α} {cs : List Value} {x : α} (h : Loc H0 L H) (f : Fresh r H cs x H') : Loc H0 (.data r cs x :: L) H' := by
  obtain ⟨bs, h1, h2, h3, h4⟩ := f.has
  exact h.cons f.le (bs := bs) ⟨h1, h2, h4⟩ h3

theorem Loc.ret (h : Loc H0 L H) {α : Type} {r : Rd α} {cs : List Value} {x : α} {i : Nat} (hi : L[i]? = some (.data r cs x)) : Fresh r H0 cs x H := by
  obtain ⟨bs, ⟨h1, h2, h4⟩, h3⟩ := h.mem (List.mem_of_getElem? hi)
  exact ⟨h.le, bs, h1, h2, h3, h4⟩

theorem Loc.pair (h : Loc H0 L H) {α β : Type} {r : Rd α} {s : Rd β} {c1 c2 : List Value} {x : α} {y : β} {i j : Nat} (hi : L[i]? = some (.data r c1 x)) (hj : L[j]? = some (.data s c2 y)) (hij : i ≠ j) :
    Loc H0 ((L.set i (.data (r.pair s) (c1 ++ c2) (x, y))).set j .emp) H := by
  obtain ⟨bs, cs, ⟨p1, p2, p3⟩, ⟨q1, q2, q3⟩, d, _, _, k⟩ := h.upd2 hi hj hij
  refine k H _ (bs ++ cs) (Nat.le_refl _) (fun _ _ _ _ => rfl) ⟨⟨bs, cs, c1, c2, rfl, rfl, p1, q1⟩, List.nodup_append.2 ⟨p2, q2, fun a ha b hb hab => d a ha (hab ▸ hb)⟩, fun c hc => ?_⟩ fun c hc => ?_
  · rcases List.mem_append.1 hc with hc | hc
    · exact p3 c hc
    · exact q3 c hc
  · rcases List.mem_append.1 hc with hc | hc
    · exact .inl hc
    · exact .inr (.inl hc)

/-! ### Variables -/

theorem Wl.new {cells : List Value} {ty : TypeId} (h : Loc H0 L H) (k : ∀ H' b, Loc H0 (.box b cells :: L) H' → K (pt b 0) H') : W.new cells ty H K :=
  Wi.new fun H' l n hb => k H' _ (h.cons l (bs := [H.next]) ⟨rfl, by omega, ty, _, hb⟩ fun b hb => by simp at hb; omega)

theorem Wl.box {cs : List Value} {ty : TypeId} (h : Loc H0 L H) (k : ∀ H' b, Loc H0 (.box b cs :: L) H' → K (pt b 0) H') : W.box (.agg cs.toArray) ty H K :=
  Wi.box fun H' l n hb => k H' _ (h.cons l (bs := [H.next]) ⟨rfl, by omega, ty, _, hb⟩ fun b hb => by simp at hb; omega)

theorem Wl.get {b o : Nat} {cs : List Value} {v : Value} (h : Loc H0 L H) [RdB L b cs] (hv : cs[o]? = some v) (k : K v H) : W.get (pt b o) H K := by
  obtain ⟨_, kb, h1, rfl⟩ := h.bx (b := b)
  exact Wi.get h1 hv k

theorem Wl.getN {b o m : Nat} {cs vs : List Value} (h : Loc H0 L H) [RdB L b cs] (hv : (cs.drop o).take m = vs) (hl : o + m ≤ cs.length) (k : K (.agg vs.toArray) H) : W.getN m (pt b o) H K := by
  obtain ⟨_, kb, h1, rfl⟩ := h.bx (b := b)
  exact Wi.getN h1 hl (by rw [hv]; exact k)

theorem Wl.getA {b m : Nat} {cs : List Value} (h : Loc H0 L H) [RdB L b cs] (hl : cs.length = m) (k : K (.agg cs.toArray) H) : W.getN m (pt b 0) H K :=
  Wl.getN h (vs := cs) (by rw [List.drop_zero, List.take_of_length_le (by omega)]) (by omega) k

theorem Wl.put {b o i : Nat} {cs : List Value} {v : Value} (h : Loc H0 L H) [c : AtB L b cs i] [s : SetI L i (.box b (cs.set o v)) L'] (hc : isCell v = true) (ho : o < cs.length)
    (k : ∀ H', Loc H0 L' H' → K undef H') : W.put (pt b o) v H K := by
  obtain ⟨bs, ⟨rfl, h1, ty, e, h2⟩, _, u⟩ := h.upd c.get
  refine Wi.put h2 hc rfl ho fun H' w => k H' ?_
  rw [s.eq]
  exact u H' _ [b] (by rw [w.next]; exact Nat.le_refl _) (fun c _ hc => w.off c (by simpa using hc)) ⟨rfl, by rw [w.next]; exact h1, ty, e, w.here⟩ fun c hc => .inl hc

theorem Wl.putN {b o m i : Nat} {cs vs : List Value} (h : Loc H0 L H) [c : AtB L b cs i] [s : SetI L i (.box b (cs.take o ++ vs ++ cs.drop (o + m))) L'] (hs : vs.length = m) (hc : vs.all isCell = true) (ho : o + m ≤ cs.length)
    (k : ∀ H', Loc H0 L' H' → K undef H') : W.putN m (pt b o) (.agg vs.toArray) H K := by
  obtain ⟨bs, ⟨rfl, h1, ty, e, h2⟩, _, u⟩ := h.upd c.get
  refine Wi.putN h2 (by simpa using hs) (by simpa using hc) rfl ho fun H' w => k H' ?_
  rw [s.eq]
  exact u H' _ [b] (by rw [w.next]; exact Nat.le_refl _) (fun c _ hc => w.off c (by simpa using hc)) ⟨rfl, by rw [w.next]; exact h1, ty, e, w.here⟩ fun c hc => .inl hc

/-- A whole struct put into its variable. -/
theorem Wl.putA {b m i : Nat} {cs vs : List Value} (h : Loc H0 L H) [c : AtB L b cs i] [s : SetI L i (.box b vs) L'] (hl : cs.length = m) (hs : vs.length = m) (hc : vs.all isCell = true)
    (k : ∀ H', Loc H0 L' H' → K undef H') : W.putN m (pt b 0) (.agg vs.toArray) H K := by
  have e : cs.take 0 ++ vs ++ cs.drop (0 + m) = vs := by rw [List.take_zero, List.nil_append, List.drop_of_length_le (by omega), List.append_nil]
  have s' : SetI L i (.box b (cs.take 0 ++ vs ++ cs.drop (0 + m))) L' := ⟨by rw [e]; exact s.eq⟩
  exact Wl.putN h hs hc (by omega) k

/-! ### Reading slices -/

theorem Wl.lenH {α : Type} {r : Rd α} {v : Value} {xs : List α} (h : Has (Rd.slice r) H [v] xs) (k : K (.int .i64 xs.length) H) : W.len v H K := by
  obtain ⟨bs, h⟩ := h
  obtain ⟨p, e, g⟩ := Rd.slice_val h
  simp only [List.cons.injEq, and_true] at g
  rw [g]
  exact k

theorem Wl.len {α : Type} {r : Rd α} {v : Value} {xs : List α} (h : Loc H0 L H) [RdV L [v] (Rd.slice r) xs] (k : K (.int .i64 xs.length) H) : W.len v H K := Wl.lenH h.rd k

theorem Wl.at1H {α : Type} {r : Rd α} (hr : r.n = 1) {v : Value} {xs : List α} {i : Nat} {κ : IntKind} (h : Has (Rd.slice r) H [v] xs) (hi : i < xs.length) (k : ∀ u, Has r H [u] xs[i] → K u H) :
    W.indexAddr 1 v (.int κ i) H fun p H => W.get p H K := by
  obtain ⟨bs, h⟩ := h
  obtain ⟨b, o, e, kb, fs, q1, _, s⟩ := Rd.slice_at h hi
  obtain ⟨u, m, ru⟩ := s.one hr hi
  rw [q1]
  exact Wi.index hi (Wi.get s.blk m (k u ⟨_, ru⟩))

theorem Wl.atIntH {v : Value} {xs : List Int} {i : Nat} {κ : IntKind} (h : Has (Rd.slice Rd.int) H [v] xs) (hi : i < xs.length) (k : I64 xs[i] → K (.int .i64 xs[i]) H) : W.indexAddr 1 v (.int κ i) H fun p H => W.get p H K :=
  Wl.at1H rfl h hi fun u hu => by
    obtain ⟨_, _, hu, hx⟩ := hu
    simp only [List.cons.injEq, and_true] at hu
    subst hu
    exact k hx

theorem Wl.atInt {v : Value} {xs : List Int} {i : Nat} {κ : IntKind} (h : Loc H0 L H) [RdV L [v] (Rd.slice Rd.int) xs] (hi : i < xs.length) (k : I64 xs[i] → K (.int .i64 xs[i]) H) : W.indexAddr 1 v (.int κ i) H fun p H => W.get p H K :=
  Wl.atIntH h.rd hi k

theorem Wl.at1 {α : Type} {r : Rd α} (hr : r.n = 1) {v : Value} {xs : List α} {i : Nat} {κ : IntKind} (h : Loc H0 L H) [RdV L [v] (Rd.slice r) xs] (hi : i < xs.length) (k : ∀ u, Has r H [u] xs[i] → K u H) :
    W.indexAddr 1 v (.int κ i) H fun p H => W.get p H K := Wl.at1H hr h.rd hi k

/-- An element of what was there is lent, too. -/
theorem Wl.atL {α : Type} {r : Rd α} (hr : r.n = 1) {v : Value} {xs : List α} {i j : Nat} {κ : IntKind} (h : Loc H0 L H) [c : AtV L [v] (.lent (Rd.slice r) [v] xs) j] (hi : i < xs.length) (k : ∀ u, Loc H0 (.lent r [u] xs[i] :: L) H → K u H) :
    W.indexAddr 1 v (.int κ i) H fun p H => W.get p H K := by
  obtain ⟨_, ⟨_, bs, h1, h2⟩, _⟩ := h.mem (List.mem_of_getElem? c.get)
  obtain ⟨b, o, e, kb, fs, q1, q2, s⟩ := Rd.slice_at h1 hi
  obtain ⟨u, m, ru⟩ := s.one hr hi
  rw [q1]
  refine Wi.index hi (Wi.get s.blk m (k u (h.cons (.refl _) (bs := []) ⟨rfl, fs i, ru, fun b hb => h2 b ?_⟩ fun b hb => by cases hb)))
  rw [q2, List.mem_cons, List.mem_flatMap]
  exact .inr ⟨i, by simpa using hi, hb⟩

/-! ### Slices that grow -/

theorem Loc.nilG {α : Type} (r : Rd α) (ty : TypeId) (h : Loc H0 L H) : Loc H0 (.grow r ty (.slice none 0 0) [] :: L) H :=
  h.cons (.refl _) (bs := []) (.inl ⟨rfl, rfl, rfl⟩) fun b hb => by cases hb

theorem grow_data {α : Type} {r : Rd α} {ty : TypeId} {v : Value} {xs : List α} {bs : List Nat} {n : Nat} (h : (Atom.grow (n := n) r ty v xs).P H bs) : (Atom.data (n := n) (Rd.slice r) [v] xs).P H bs := by
  rcases h with ⟨rfl, rfl, rfl⟩ | ⟨b, e, kb, fs, rfl, h2, rfl, h4, h5, s, _⟩
  · exact ⟨.inl ⟨rfl, rfl, .inl rfl⟩, List.nodup_nil, fun c hc => by cases hc⟩
  · exact ⟨.inr ⟨b, 0, e, kb, fs, rfl, rfl, s⟩, h4, h5⟩

/-- A slice that a call has made, with all its room in use. -/
structure FreshG {α : Type} (r : Rd α) (ty : TypeId) (H : Heap) (v : Value) (xs : List α) (H' : Heap) : Prop where
  le : H.Le H'
  has : ∃ bs, (Atom.grow (n := H.next) r ty v xs).P H' bs ∧ ∀ c ∈ bs, H.next ≤ c

theorem FreshG.fresh {α : Type} {r : Rd α} {ty : TypeId} {v : Value} {xs : List α} (f : FreshG r ty H v xs H') : Fresh (Rd.slice r) H [v] xs H' := by
  obtain ⟨bs, p, h3⟩ := f.has
  obtain ⟨h1, h2, h4⟩ := grow_data p
  exact ⟨f.le, bs, h1, h2, h3, h4⟩

theorem Loc.mkG {α : Type} {r : Rd α} {ty : TypeId} {v : Value} {xs : List α} (h : Loc H0 L H) (f : FreshG r ty H v xs H') : Loc H0 (.grow r ty v xs :: L) H' := by
  obtain ⟨bs, p, h3⟩ := f.has
  exact h.cons f.le (bs := bs) p h3

theorem Loc.retGG (h : Loc H0 L H) {α : Type} {r : Rd α} {ty : TypeId} {v : Value} {xs : List α} {i : Nat} (hi : L[i]? = some (.grow r ty v xs)) : FreshG r ty H0 v xs H := by
  obtain ⟨bs, p, h3⟩ := h.mem (List.mem_of_getElem? hi)
  exact ⟨h.le, bs, p, h3⟩

/-- What has grown, as what was made. -/
theorem Loc.asData (h : Loc H0 L H) {α : Type} {r : Rd α} {ty : TypeId} {v : Value} {xs : List α} {i : Nat} (hi : L[i]? = some (.grow r ty v xs)) [m : SetI L i (.data (Rd.slice r) [v] xs) L'] : Loc H0 L' H := by
  rw [m.eq]
  exact h.as hi fun bs p => ⟨bs, grow_data p, fun c hc => hc⟩

end

end Go.Ab

/-! Slices that grow, made, written: words over things. -/
namespace Go.Ab

theorem flat_congr {l : List Nat} {f g : Nat → List Nat} (h : ∀ i ∈ l, f i = g i) : l.flatMap f = l.flatMap g := by
  induction l with
  | nil => rfl
  | cons x l ih => rw [List.flatMap_cons, List.flatMap_cons, h x (by simp), ih fun i hi => h i (by simp [hi])]

theorem range_flat (a b : Nat) (f g : Nat → List Nat) : (List.range (a + b)).flatMap (fun i => if i < a then f i else g (i - a)) = (List.range a).flatMap f ++ (List.range b).flatMap g := by
  rw [List.range_add, List.flatMap_append, List.flatMap_map]
  congr 1
  · refine flat_congr fun i hi => ?_
    rw [if_pos (by simpa using hi)]
  · refine flat_congr fun i hi => ?_
    rw [if_neg (by omega), Nat.add_sub_cancel_left]

theorem cellsAt_append_right {m a : Nat} {xs ys : List Value} {i : Nat} (h : xs.length = a * m) (hi : a ≤ i) : cellsAt m (xs ++ ys) 0 i = cellsAt m ys 0 (i - a) := by
  unfold cellsAt
  have e : 0 + i * m = xs.length + (0 + (i - a) * m) := by
    rw [h, Nat.zero_add, Nat.zero_add, ← Nat.add_mul]
    congr 1
    omega
  rw [e, List.drop_append, List.drop_of_length_le (by omega), List.nil_append]
  congr 2
  omega

/-- Some elements more. -/
theorem grow_appendTo {n : Nat} {H : Heap} {bs : List Nat} {α : Type} {r : Rd α} {ty : TypeId} {v : Value} {xs zs : List α} {new : List Value} {K : Post} (g : (Atom.grow (n := n) r ty v xs).P H bs)
    (hz : 0 < zs.length) (hnew : new.length = zs.length * r.n) (hcell : new.all isCell = true) (hlen : xs.length + zs.length ≤ 17179869184) (gs : Nat → List Nat)
    (he : ∀ i (h : i < zs.length), r.rel H (gs i) (cellsAt r.n new 0 i) zs[i] ∧ RW H (gs i)) (hnd : ((List.range zs.length).flatMap gs).Nodup) (hd : ∀ c ∈ bs, c ∉ (List.range zs.length).flatMap gs)
    (k : ∀ H' v' bs', (Atom.grow (n := n) r ty v' (xs ++ zs)).P H' bs' → H.next ≤ H'.next → (∀ c, c < H.next → c ∉ bs → H'.blk c = H.blk c) → (∀ c ∈ bs', c ∈ bs ∨ c ∈ (List.range zs.length).flatMap gs ∨ H.next ≤ c) → K v' H') :
    appendTo r.n ty v zs.length new K H := by
  have lowg : ∀ i (h : i < zs.length), ∀ c ∈ gs i, c < H.next := fun i h => r.low (he i h).1
  have hl : (xs ++ zs).length = xs.length + zs.length := by simp
  -- what is built
  have build : ∀ (H' : Heap) (old : List Value) (fs : Nat → List Nat), H'.next = H.next + 1 → H'.blk H.next = some ⟨old ++ new, ty, r.n, false⟩ → (∀ c, c < H.next → c ∉ bs → H'.blk c = H.blk c) →
      old.length = xs.length * r.n → old.all isCell = true → ((List.range xs.length).flatMap fs).Nodup → (∀ c ∈ (List.range xs.length).flatMap fs, c ∈ bs) → RW H' ((List.range xs.length).flatMap fs) →
      (∀ i (h : i < xs.length), r.rel H' (fs i) (cellsAt r.n old 0 i) xs[i]) → (∀ i (h : i < xs.length), ∀ c ∈ fs i, c < H.next) →
      K (.slice (some (adr H.next 0)) (xs.length + zs.length) (2 * (xs.length + zs.length) + 1)) H' := by
    intro H' old fs hn hb hsame ho hoc hfn hfb hfw hfr hfl
    have hgs : ∀ i (h : i < zs.length), ∀ c ∈ gs i, H'.blk c = H.blk c := fun i h c hc => hsame c (lowg i h c hc) fun hm => hd c hm (List.mem_flatMap.2 ⟨i, by simpa using h, hc⟩)
    refine k H' _ (H.next :: (List.range (xs ++ zs).length).flatMap (fun i => if i < xs.length then fs i else gs (i - xs.length))) (.inr ⟨H.next, _, _, _, by rw [hl], by rw [hl]; omega, rfl, ?_, ?_, ⟨by omega, hb, by rw [hl]; omega, by rw [hl]; omega, ?_, ?_⟩, rfl, rfl, ?_, ?_⟩) (by omega) hsame ?_
    · rw [hl, range_flat]
      refine List.nodup_cons.2 ⟨fun hm => ?_, List.nodup_append.2 ⟨hfn, hnd, fun a ha b hb hab => hd a (hfb a ha) (hab ▸ hb)⟩⟩
      rcases List.mem_append.1 hm with hm | hm
      · obtain ⟨i, hi, hc⟩ := List.mem_flatMap.1 hm
        have := hfl i (by simpa using hi) _ hc
        omega
      · obtain ⟨i, hi, hc⟩ := List.mem_flatMap.1 hm
        have := lowg i (by simpa using hi) _ hc
        omega
    · rw [hl, range_flat]
      intro c hc kc hk
      rcases List.mem_cons.1 hc with rfl | hc
      · rw [hb] at hk; cases hk; rfl
      · rcases List.mem_append.1 hc with hc | hc
        · exact hfw c hc kc hk
        · obtain ⟨i, hi, hc⟩ := List.mem_flatMap.1 hc
          have hi : i < zs.length := by simpa using hi
          rw [hgs i hi c hc] at hk
          exact (he i hi).2 c hc kc hk
    · rw [hl]
      simp only [List.length_append, ho, hnew, Nat.add_mul]
      omega
    · intro i hi
      rw [hl] at hi
      by_cases h : i < xs.length
      · simp only [if_pos h]
        rw [List.getElem_append_left h, cellsAt_append_left (by
          rw [ho]
          have : (i + 1) * r.n ≤ xs.length * r.n := Nat.mul_le_mul_right _ h
          rw [Nat.succ_mul] at this
          omega)]
        exact hfr i h
      · simp only [if_neg h]
        rw [List.getElem_append_right (by omega), cellsAt_append_right ho (by omega)]
        exact r.frame (he _ (by omega)).1 (by omega) (hgs _ (by omega))
    · rw [hl]
      simp only [List.length_append, ho, hnew, Nat.add_mul]
    · simp only [List.all_append, hoc, hcell, Bool.and_self]
    · rw [hl, range_flat]
      intro c hc
      rcases List.mem_cons.1 hc with rfl | hc
      · exact .inr (.inr (Nat.le_refl _))
      · rcases List.mem_append.1 hc with hc | hc
        · exact .inl (hfb c hc)
        · exact .inr (.inl hc)
  rcases g with ⟨rfl, rfl, rfl⟩ | ⟨b, e, kb, fs, rfl, he2, rfl, hbn, hrw, s, hty, hesz, hlenk, hck⟩
  · unfold appendTo
    simp only []
    rw [if_neg (by omega)]
    refine ⟨by simpa using hlen, ?_⟩
    simp only [oldCells, if_true, List.nil_append, Nat.zero_add]
    have := build (H.alloc new ty r.n) [] (fun _ => []) (by simp [Heap.alloc]) (by simp [Heap.alloc]) (fun c hc _ => by simp only [Heap.alloc]; rw [if_neg (by omega)]) (by simp) rfl (by simp) (by simp) (by intro c hc; simp at hc)
      (fun i h => by simp at h) (fun i h => by simp at h)
    simpa using this
  · have hold : H.getN (adr b 0) (xs.length * r.n) = some kb.cells := by
      simp only [Heap.getN, s.blk, Option.bind_some, Nat.zero_add, List.drop_zero]
      rw [if_pos (by omega), List.take_of_length_le (by omega)]
    have hlow : ∀ i (h : i < xs.length), ∀ c ∈ fs i, c < H.next := fun i h => r.low (s.each i h)
    have hbf := (List.nodup_cons.1 hbn).1
    have hmem : ∀ i (h : i < xs.length), ∀ c ∈ fs i, c ∈ (List.range xs.length).flatMap fs := fun i h c hc => List.mem_flatMap.2 ⟨i, by simpa using h, hc⟩
    have hro : kb.ro = false := hrw b (by simp) kb s.blk
    have hlt := s.lt
    unfold appendTo
    simp only []
    rw [if_neg (by omega)]
    refine ⟨hlen, ?_⟩
    simp only [oldCells, hold]
    split
    · have la : H.Le (H.alloc (kb.cells ++ new) ty r.n) := ⟨by simp [Heap.alloc], fun c hc => by simp only [Heap.alloc]; rw [if_neg (by omega)]⟩
      refine build (H.alloc (kb.cells ++ new) ty r.n) kb.cells fs (by simp [Heap.alloc]) (by simp [Heap.alloc]) (fun c hc _ => la.blk c hc) hlenk hck (List.nodup_cons.1 hbn).2 (fun c hc => List.mem_cons_of_mem _ hc)
        (fun c hc kc hk => ?_) (fun i h => Rd.le _ (s.each i h) la) hlow
      obtain ⟨i, hi, hc'⟩ := List.mem_flatMap.1 hc
      rw [la.blk c (hlow i (by simpa using hi) c hc')] at hk
      exact hrw c (List.mem_cons_of_mem _ hc) kc hk
    · refine ⟨trivial, hcell, ?_, ?_⟩
      · simp only [s.blk]
        exact ⟨hro, hty, hesz⟩
      · have lb : ∀ c, c < H.next → c ≠ b → ((H.setBlk b none).alloc (kb.cells ++ new) ty r.n).blk c = H.blk c := fun c hc hcb => by
          have hcn : ¬ c = H.next := by omega
          simp [Heap.alloc, Heap.setBlk, hcb, hcn]
        have ne : ∀ i (h : i < xs.length), ∀ c ∈ fs i, c ≠ b := fun i h c hc e => hbf (e ▸ hmem i h c hc)
        refine build ((H.setBlk b none).alloc (kb.cells ++ new) ty r.n) kb.cells fs (by simp [Heap.alloc, Heap.setBlk]) (by simp [Heap.alloc, Heap.setBlk]) (fun c hc hcb => lb c hc fun e => hcb (by simp [e])) hlenk hck (List.nodup_cons.1 hbn).2
          (fun c hc => List.mem_cons_of_mem _ hc) (fun c hc kc hk => ?_) (fun i h => r.frame (s.each i h) (by simp [Heap.alloc, Heap.setBlk]) fun c hc => lb c (hlow i h c hc) (ne i h c hc)) hlow
        obtain ⟨i, hi, hc'⟩ := List.mem_flatMap.1 hc
        have hi : i < xs.length := by simpa using hi
        rw [lb c (hlow i hi c hc') (ne i hi c hc')] at hk
        exact hrw c (List.mem_cons_of_mem _ hc) kc hk

theorem grow_append {n : Nat} {H : Heap} {bs : List Nat} {α : Type} {r : Rd α} {ty : TypeId} {v y : Value} {xs zs : List α} {new : List Value} {K : Post} (g : (Atom.grow (n := n) r ty v xs).P H bs)
    (hs : srcCells r.n H y = some (zs.length, new)) (hz : 0 < zs.length) (hnew : new.length = zs.length * r.n) (hcell : new.all isCell = true) (hlen : xs.length + zs.length ≤ 17179869184) (gs : Nat → List Nat)
    (he : ∀ i (h : i < zs.length), r.rel H (gs i) (cellsAt r.n new 0 i) zs[i] ∧ RW H (gs i)) (hnd : ((List.range zs.length).flatMap gs).Nodup) (hd : ∀ c ∈ bs, c ∉ (List.range zs.length).flatMap gs)
    (k : ∀ H' v' bs', (Atom.grow (n := n) r ty v' (xs ++ zs)).P H' bs' → H.next ≤ H'.next → (∀ c, c < H.next → c ∉ bs → H'.blk c = H.blk c) → (∀ c ∈ bs', c ∈ bs ∨ c ∈ (List.range zs.length).flatMap gs ∨ H.next ≤ c) → K v' H') :
    W.append r.n ty v y H K := by
  unfold W.append
  rw [hs]
  exact grow_appendTo g hz hnew hcell hlen gs he hnd hd k

/-! ### Readings without blocks -/

class Plain {α : Type} (r : Rd α) : Prop where
  no : ∀ {H bs cs x}, r.rel H bs cs x → bs = [] ∧ ∀ H', r.rel H' [] cs x
instance : Plain Rd.int := ⟨fun ⟨h1, h2, h3⟩ => ⟨h1, fun _ => ⟨rfl, h2, h3⟩⟩⟩
instance : Plain Rd.bool := ⟨fun ⟨h1, h2⟩ => ⟨h1, fun _ => ⟨rfl, h2⟩⟩⟩
instance {α β : Type} {r : Rd α} {s : Rd β} [p : Plain r] [q : Plain s] : Plain (r.pair s) := ⟨fun ⟨b1, b2, c1, c2, h1, h2, h3, h4⟩ => by
  obtain ⟨rfl, g1⟩ := p.no h3
  obtain ⟨rfl, g2⟩ := q.no h4
  exact ⟨h1, fun H' => ⟨[], [], c1, c2, rfl, h2, g1 H', g2 H'⟩⟩⟩

theorem cells_all {α : Type} {r : Rd α} {H : Heap} {new : List Value} {zs : List α} {gs : Nat → List Nat} (hnew : new.length = zs.length * r.n) (he : ∀ i (h : i < zs.length), r.rel H (gs i) (cellsAt r.n new 0 i) zs[i]) : new.all isCell = true := by
  rw [List.all_eq_true]
  intro c hc
  obtain ⟨j, hj, rfl⟩ := List.mem_iff_getElem.1 hc
  have hpos : 0 < r.n := by
    rcases Nat.eq_zero_or_pos r.n with h | h
    · rw [h, Nat.mul_zero] at hnew; omega
    · exact h
  have hi : j / r.n < zs.length := Nat.div_lt_of_lt_mul (by rw [Nat.mul_comm]; omega)
  have := r.cell (he _ hi)
  rw [List.all_eq_true] at this
  refine this _ ?_
  have e : (cellsAt r.n new 0 (j / r.n))[j % r.n]? = some new[j] := by
    unfold cellsAt
    rw [List.getElem?_take, if_pos (Nat.mod_lt _ hpos), List.getElem?_drop, Nat.zero_add]
    have : j / r.n * r.n + j % r.n = j := by rw [Nat.mul_comm]; exact Nat.div_add_mod j r.n
    rw [this, List.getElem?_eq_getElem hj]
  exact List.mem_of_getElem? e

/-- The cells of a slice. -/
theorem src_has {α : Type} {r : Rd α} {H : Heap} {bs : List Nat} {y : Value} {zs : List α} (h : (Rd.slice r).rel H bs [y] zs) (hz : 0 < zs.length) : ∃ new fs, srcCells r.n H y = some (zs.length, new) ∧ new.length = zs.length * r.n ∧
    (∀ i (h : i < zs.length), r.rel H (fs i) (cellsAt r.n new 0 i) zs[i]) ∧ ∃ b, bs = b :: (List.range zs.length).flatMap fs := by
  obtain ⟨b, o, e, kb, fs, q1, q2, s⟩ := Rd.slice_at h hz
  have hroom := s.room
  refine ⟨(kb.cells.drop o).take (zs.length * r.n), fs, ?_, by simp; omega, fun i hi => ?_, b, q2⟩
  · rw [q1]
    simp only [srcCells, Heap.getN, s.blk, Option.bind_some]
    rw [if_neg (by omega), if_pos (by omega)]
    rfl
  · have e : cellsAt r.n ((kb.cells.drop o).take (zs.length * r.n)) 0 i = cellsAt r.n kb.cells o i := by
      unfold cellsAt
      have : (i + 1) * r.n ≤ zs.length * r.n := Nat.mul_le_mul_right _ hi
      rw [Nat.succ_mul] at this
      rw [Nat.zero_add, List.drop_take, List.drop_drop, List.take_take, Nat.min_eq_left (by omega)]
    rw [e]
    exact s.each i hi

theorem src_nil {α : Type} {r : Rd α} {H : Heap} {bs : List Nat} {y : Value} {sz : Nat} (h : (Rd.slice r).rel H bs [y] []) : srcCells sz H y = some (0, []) := by
  obtain ⟨a, e, g⟩ := Rd.slice_val h
  simp only [List.cons.injEq, and_true] at g
  rw [g]
  cases a <;> simp [srcCells]

theorem flat_nil {m : Nat} {f : Nat → List Nat} (h : ∀ i, i < m → f i = []) : (List.range m).flatMap f = [] := by
  rw [List.flatMap_eq_nil_iff]
  intro i hi
  exact h i (by simpa using hi)

section
variable {H0 H H' : Heap} {L L' : List (Atom H0.next)} {K : Post}

/-- Elements of a slice are appended. -/
theorem Wl.appendH {α : Type} {r : Rd α} [p : Plain r] {ty : TypeId} {v y : Value} {xs zs : List α} {i m : Nat} (hm : r.n = m) (h : Loc H0 L H) (hi : L[i]? = some (.grow r ty v xs)) (hy : Has (Rd.slice r) H [y] zs)
    (hlen : xs.length + zs.length ≤ 17179869184) (k : ∀ H' v', Loc H0 (L.set i (.grow r ty v' (xs ++ zs))) H' → K v' H') : W.append m ty v y H K := by
  subst hm
  obtain ⟨ys, hy⟩ := hy
  obtain ⟨bs, g, _, u⟩ := h.upd hi
  cases zs with
  | nil =>
    have e : W.append r.n ty v y H K = appendTo r.n ty v 0 [] K H := by
      unfold W.append
      rw [src_nil hy]
    rw [e]
    have hk := k H v
    rw [List.append_nil] at hk
    have hL : L.set i (.grow r ty v xs) = L := by
      have := (List.getElem?_eq_some_iff.1 hi)
      obtain ⟨h1, h2⟩ := this
      rw [← h2]
      simp
    rw [hL] at hk
    rcases g with ⟨rfl, rfl, rfl⟩ | ⟨b, e, kb, fs, rfl, he2, _⟩
    · unfold appendTo
      simp only [Nat.add_zero, Nat.zero_div, Nat.le_refl, if_true]
      exact hk h
    · unfold appendTo
      simp only [Nat.add_zero]
      rw [if_pos (by omega)]
      simp only [if_true]
      exact hk h
  | cons z zs =>
    obtain ⟨new, fs, h1, h2, h3, _⟩ := src_has hy (by simp)
    have hnil : ∀ i, i < (z :: zs).length → fs i = [] := fun i hi => (p.no (h3 i hi)).1
    have hf := flat_nil hnil
    refine grow_append g h1 (by simp) h2 (cells_all h2 h3) hlen fs (fun i hi => ⟨h3 i hi, fun c hc => by rw [hnil i hi] at hc; cases hc⟩) (by rw [hf]; exact List.nodup_nil) (fun c _ => by rw [hf]; simp) fun H' v' bs' p' hn hsame hbs => k H' v' (u H' _ bs' hn hsame p' fun c hc => ?_)
    rcases hbs c hc with h | h | h
    · exact .inl h
    · rw [hf] at h; cases h
    · exact .inr h

/-- One element is appended. -/
theorem Wl.pushP {α : Type} {r : Rd α} [p : Plain r] {ty ty' : TypeId} {v u : Value} {zc cs : List Value} {x : α} {xs : List α} {i m : Nat} (hm : r.n = m) (hz : zc.length = m) (hu : cellsA u = some cs) (hx : ∀ H, r.rel H [] cs x) (h : Loc H0 L H) [c : AtV L [v] (.grow r ty v xs) i]
    (hlen : xs.length < 17179869184) (k : ∀ H' v', Loc H0 (L.set i (.grow r ty v' (xs ++ [x]))) H' → K v' H') : W.lit 1 zc ty' [(0, m, u)] H fun y H => W.append m ty v y H K := by
  subst hm
  have hl : cs.length = r.n := r.len (hx H)
  refine Wi.lit (cells := cs) ?_ fun H1 l1 n1 k1 => ?_
  · have e : reps 1 zc = zc := by simp [reps]
    simp only [fillA, hu, e, hl, hz, Nat.zero_add, Nat.le_refl, and_self, if_true, List.take_zero, List.nil_append]
    rw [List.drop_of_length_le (by omega), List.append_nil]
  · refine Wl.appendH (zs := [x]) rfl (h.to l1) c.get ⟨[H.next], .inr ⟨H.next, 0, 2, _, fun _ => [], rfl, rfl, ⟨by omega, k1, by simp, by simp, by simp [hl], fun i hi => ?_⟩⟩⟩ (by simp; omega) fun H' v' h' => k H' v' h'
    have : i = 0 := by simp at hi; omega
    subst this
    have e : cellsAt r.n cs 0 0 = cs := by unfold cellsAt; simp [← hl]
    rw [e]
    exact hx H1

end
end Go.Ab

/-! Writes, rows, what is made: words over things. -/
namespace Go.Ab

def headAt (H : Heap) (v : Value) (i : Nat) : Option Value := match v with | .slice (some a) _ _ => (H.blk a.block).bind fun k => k.cells[a.off + i]? | _ => none

theorem headAt_frame {α : Type} {r : Rd α} {H H' : Heap} {bs : List Nat} {v : Value} {xs : List α} (h : (Rd.slice r).rel H bs [v] xs) (hb : ∀ b ∈ bs, H'.blk b = H.blk b) {i : Nat} (hi : i < xs.length) : headAt H' v i = headAt H v i := by
  obtain ⟨b, o, e, kb, fs, q1, q2, s⟩ := Rd.slice_at h hi
  rw [q1]
  simp only [headAt]
  rw [hb b (by rw [q2]; simp)]

/-- Rows whose headers are known. -/
def Atom.rows {n : Nat} {α : Type} (r : Rd α) (v : Value) (us : List Value) (xs : List α) : Atom n where
  P := fun H bs => (Rd.slice r).rel H bs [v] xs ∧ bs.Nodup ∧ RW H bs ∧ us.length = xs.length ∧ ∀ i, i < xs.length → headAt H v i = us[i]?
  low := fun h => (Rd.slice r).low h.1
  frame := fun h _ hn hb => ⟨(Rd.slice r).frame h.1 hn fun b hm => hb b (.inr hm), h.2.1, fun c hc kc hk => h.2.2.1 c hc kc (by rw [← hb c (.inr hc)]; exact hk), h.2.2.2.1, fun i hi => by
    rw [headAt_frame h.1 (fun b hm => hb b (.inr hm)) hi]; exact h.2.2.2.2 i hi⟩

section
variable {n : Nat}
instance {α : Type} {r : Rd α} {v : Value} {us : List Value} {xs : List α} {L : List (Atom n)} : AtV (.rows r v us xs :: L) [v] (.rows r v us xs) 0 := ⟨rfl⟩
instance {α : Type} {r : Rd α} {v : Value} {us : List Value} {xs : List α} {L : List (Atom n)} : RdV (.rows r v us xs :: L) [v] (Rd.slice r) xs := ⟨_, List.mem_cons_self, fun _ _ h => ⟨_, h.1⟩⟩
end

/-- An element of a slice in place. -/
theorem Marked.setP {α : Type} {r : Rd α} [p : Plain r] {H : Heap} {bs : List Nat} {v : Value} {xs : List α} {i : Nat} {y : α} {cs : List Value} (h : (Rd.slice r).rel H bs [v] xs) (hrw : RW H bs) (hi : i < xs.length) (hy : ∀ H, r.rel H [] cs y) :
    ∃ b o e kb, v = .slice (some (adr b o)) xs.length e ∧ H.blk b = some kb ∧ kb.ro = false ∧ o + i * r.n + r.n ≤ kb.cells.length ∧
      ∀ H', H.Wr b { kb with cells := kb.cells.take (o + i * r.n) ++ cs ++ kb.cells.drop (o + i * r.n + r.n) } H' → Marked (Rd.slice r) H bs [v] (xs.set i y) H' := by
  obtain ⟨b, o, e, kb, fs, q1, q2, s⟩ := Rd.slice_at h hi
  have hin := s.in hi
  have hcl : cs.length = r.n := r.len (hy H)
  have hfs : ∀ j (hj : j < xs.length), fs j = [] := fun j hj => (p.no (s.each j hj)).1
  have hbs : ∀ c ∈ bs, c = b := fun c hc => by
    rw [q2, List.mem_cons, List.mem_flatMap] at hc
    rcases hc with h | ⟨j, hj, hc⟩
    · exact h
    · rw [hfs j (by simpa using hj)] at hc; cases hc
  refine ⟨b, o, e, kb, q1, s.blk, hrw b (by rw [q2]; simp) kb s.blk, hin, fun H' w => ⟨by rw [w.next]; exact Nat.le_refl _, .inr ⟨b, o, e, _, fs, by rw [q2, List.length_set], by rw [List.length_set]; first | done | rw [q1], ⟨by rw [w.next]; exact s.lt, w.here, by rw [List.length_set]; exact s.cap, by rw [List.length_set]; exact s.small, by
      rw [List.length_set]
      have := s.room
      simp only [List.length_append, List.length_take, List.length_drop, hcl]
      omega, fun j hj => ?_⟩⟩, fun c hc hcb => w.off c fun e => hcb (by rw [e, q2]; simp), fun c hc kc hk => ?_⟩⟩
  · have hj' : j < xs.length := by rw [List.length_set] at hj; exact hj
    rw [cells_put hcl hin, hfs j hj']
    by_cases hji : j = i
    · subst hji
      rw [if_pos rfl]
      simp only [List.getElem_set_self]
      exact hy H'
    · rw [if_neg hji, List.getElem_set_ne (fun h => hji h.symm)]
      exact (p.no (s.each j hj')).2 H'
  · rw [hbs c hc, w.here] at hk
    cases hk
    exact hrw b (by rw [q2]; simp) kb s.blk

theorem rows_elem {n : Nat} {α : Type} {r : Rd α} (hr : r.n = 1) {H : Heap} {bs : List Nat} {v : Value} {us : List Value} {xs : List α} (h : (Atom.rows (n := n) r v us xs).P H bs) {a : Nat} (ha : a < xs.length) :
    ∃ u fi, us[a]? = some u ∧ (∃ b o e kb, v = .slice (some (adr b o)) xs.length e ∧ H.blk b = some kb ∧ kb.cells[o + a * 1]? = some u) ∧ r.rel H fi [u] xs[a] ∧ fi.Nodup ∧ RW H fi ∧ (∀ c ∈ fi, c ∈ bs) ∧
      ∀ H' y, Marked r H fi [u] y H' → (Atom.rows (n := n) r v us (xs.set a y)).P H' bs ∧ Marked (Rd.slice r) H bs [v] (xs.set a y) H' := by
  obtain ⟨h1, h2, h3, h4, h5⟩ := h
  obtain ⟨b, o, e, kb, fs, q1, q2, s⟩ := Rd.slice_at h1 ha
  obtain ⟨u, hu, hru⟩ := s.one hr ha
  have hbn := List.nodup_cons.1 (q2 ▸ h2)
  have hmem : ∀ j, j < xs.length → ∀ c ∈ fs j, c ∈ bs := fun j hj c hc => by rw [q2]; exact List.mem_cons_of_mem _ (List.mem_flatMap.2 ⟨j, by simpa using hj, hc⟩)
  have hnb : ∀ j, j < xs.length → b ∉ fs j := fun j hj hc => hbn.1 (List.mem_flatMap.2 ⟨j, by simpa using hj, hc⟩)
  refine ⟨u, fs a, ?_, ⟨b, o, e, kb, q1, s.blk, hu⟩, hru, (flat_nodup hbn.2 ha ha).1, fun c hc => h3 c (hmem a ha c hc), hmem a ha, fun H' y m => ?_⟩
  · rw [← h5 a ha, q1]
    simp only [headAt, s.blk, Option.bind_some]
    rw [← Nat.mul_one a]
    exact hu
  · have hbk : H'.blk b = some kb := by rw [m.off b s.lt (hnb a ha)]; exact s.blk
    have mk : Marked (Rd.slice r) H bs [v] (xs.set a y) H' := by
      refine ⟨m.next, .inr ⟨b, o, e, kb, fs, by rw [q2, List.length_set], by rw [List.length_set]; first | done | rw [q1], ⟨Nat.lt_of_lt_of_le s.lt m.next, hbk, by rw [List.length_set]; exact s.cap, by rw [List.length_set]; exact s.small, by
          rw [List.length_set]; exact s.room, fun j hj => ?_⟩⟩, fun c hc hcb => m.off c hc fun h => hcb (hmem a ha c h), fun c hc kc hk => ?_⟩
      · rw [List.length_set] at hj
        by_cases hij : a = j
        · subst hij
          have e1 : cellsAt r.n kb.cells o a = [u] := by
            have hin := s.in ha
            rw [hr] at hin ⊢
            rw [cellsAt_one (by omega)]
            rw [List.getElem?_eq_getElem (by omega)] at hu
            simpa using hu
          rw [e1]
          simp only [List.getElem_set_self]
          exact m.rel
        · rw [List.getElem_set_ne hij]
          refine r.frame (s.each j hj) m.next fun c hc => m.off c (r.low (s.each j hj) c hc) fun hci => ?_
          exact (flat_nodup hbn.2 ha hj).2 hij c hci hc
      · by_cases hci : c ∈ fs a
        · exact m.rw c hci kc hk
        · rw [m.off c ((Rd.slice r).low h1 c hc) hci] at hk
          exact h3 c hc kc hk
    refine ⟨⟨mk.rel, h2, mk.rw, by rw [List.length_set]; exact h4, fun i hi => ?_⟩, mk⟩
    rw [List.length_set] at hi
    rw [← h5 i hi, q1]
    simp only [headAt, hbk, s.blk]

section
variable {H0 H H' : Heap} {L L' L2 : List (Atom H0.next)} {K : Post}

theorem Loc.mark (h : Loc H0 L H) {α : Type} {r : Rd α} {cs : List Value} {x : α} {i : Nat} (hi : L[i]? = some (.data r cs x)) : ∃ bs, r.rel H bs cs x ∧ bs.Nodup ∧ RW H bs ∧ ∀ y H', Marked r H bs cs y H' → Loc H0 (L.set i (.data r cs y)) H' := by
  obtain ⟨bs, ⟨h1, h2, h3⟩, _, k⟩ := h.upd hi
  exact ⟨bs, h1, h2, h3, fun y H' m => k H' _ bs m.next (fun c hc hcb => m.off c hc hcb) ⟨m.rel, h2, m.rw⟩ fun c hc => .inl hc⟩

/-- One number of a list, written. -/
theorem Wl.setInt {v : Value} {xs : List Int} {i j : Nat} {y : Int} {κ : IntKind} (h : Loc H0 L H) [c : AtV L [v] (.data (Rd.slice Rd.int) [v] xs) j] [s : SetI L j (.data (Rd.slice Rd.int) [v] (xs.set i y)) L'] (hi : i < xs.length) (hy : I64 y)
    (k : ∀ H', Loc H0 L' H' → K undef H') : W.indexAddr 1 v (.int κ i) H fun p H => W.put p (.int .i64 y) H K := by
  obtain ⟨bs, h1, h2, h3, u⟩ := h.mark c.get
  exact Wi.setInt h1 h3 hi hy fun H' m => k H' (by rw [s.eq]; exact u _ _ m)

theorem Wl.setP {α : Type} {r : Rd α} [Plain r] {m : Nat} (hm : r.n = m) {v : Value} {xs : List α} {i j : Nat} {y : α} {cs : List Value} {κ : IntKind} (h : Loc H0 L H) [c : AtV L [v] (.data (Rd.slice r) [v] xs) j] [s : SetI L j (.data (Rd.slice r) [v] (xs.set i y)) L'] (hi : i < xs.length) (hy : ∀ H, r.rel H [] cs y)
    (k : ∀ H', Loc H0 L' H' → K undef H') : W.indexAddr m v (.int κ i) H fun p H => W.putN m p (.agg cs.toArray) H K := by
  subst hm
  obtain ⟨bs, h1, h2, h3, u⟩ := h.mark c.get
  obtain ⟨b, o, e, kb, rfl, q2, q3, q4, q5⟩ := Marked.setP (cs := cs) h1 h3 hi hy
  have hcl : cs.length = r.n := r.len (hy H)
  have hcc := r.cell (hy H)
  refine Wi.index hi (Wi.putN q2 (by simpa using hcl) (by simpa using hcc) q3 q4 fun H' w => k H' (by
    rw [s.eq]
    exact u _ _ (q5 H' w)))

/-- The headers of rows. -/
theorem Loc.heads (h : Loc H0 L H) {α : Type} {r : Rd α} (hr : r.n = 1) {v : Value} {xs : List α} {i : Nat} {M : List Value → List (Atom H0.next)} (hi : L[i]? = some (.data (Rd.slice r) [v] xs)) [m : ∀ us, SetI L i (.rows r v us xs) (M us)] : ∃ us, us.length = xs.length ∧ Loc H0 (M us) H := by
  obtain ⟨bs, ⟨h1, h2, h3⟩, _, k⟩ := h.upd hi
  have : ∃ us : List Value, us.length = xs.length ∧ ∀ i, i < xs.length → headAt H v i = us[i]? := by
    rcases Nat.eq_zero_or_pos xs.length with h0 | h0
    · exact ⟨[], h0.symm, fun i hi => by omega⟩
    · obtain ⟨b, o, e, kb, fs, q1, q2, s⟩ := Rd.slice_at h1 h0
      have hroom := s.room
      rw [hr] at hroom
      refine ⟨(kb.cells.drop o).take xs.length, by simp; omega, fun i hi => ?_⟩
      rw [q1]
      simp only [headAt, s.blk, Option.bind_some]
      rw [List.getElem?_take, if_pos hi, List.getElem?_drop]
  obtain ⟨us, g1, g2⟩ := this
  exact ⟨us, g1, by rw [(m us).eq]; exact k H _ bs (Nat.le_refl _) (fun _ _ _ => rfl) ⟨h1, h2, h3, g1, g2⟩ fun c hc => .inl hc⟩

theorem Loc.unrows (h : Loc H0 L H) {α : Type} {r : Rd α} {v : Value} {us : List Value} {xs : List α} {i : Nat} (hi : L[i]? = some (.rows r v us xs)) [m : SetI L i (.data (Rd.slice r) [v] xs) L'] : Loc H0 L' H := by
  rw [m.eq]
  exact h.as hi fun bs p => ⟨bs, ⟨p.1, p.2.1, p.2.2.1⟩, fun c hc => hc⟩

theorem Wl.atRow {α : Type} {r : Rd α} (hr : r.n = 1) {v : Value} {us : List Value} {xs : List α} {a j : Nat} {κ : IntKind} (h : Loc H0 L H) [c : AtV L [v] (.rows r v us xs) j] (ha : a < xs.length) (k : ∀ u, us[a]? = some u → Has r H [u] xs[a] → K u H) :
    W.indexAddr 1 v (.int κ a) H fun p H => W.get p H K := by
  obtain ⟨bs, p, _⟩ := h.mem (List.mem_of_getElem? c.get)
  obtain ⟨u, fi, h1, ⟨b, o, e, kb, rfl, h3, h4⟩, h5, _⟩ := rows_elem hr p ha
  exact Wi.index ha (Wi.get h3 h4 (k u h1 ⟨_, h5⟩))

theorem Loc.row {α : Type} {r : Rd α} (hr : r.n = 1) {v u : Value} {us : List Value} {xs : List α} {a j : Nat} (h : Loc H0 L H) (hj : L[j]? = some (.rows r v us xs)) (hu : us[a]? = some u) (ha : a < xs.length) : Has r H [u] xs[a] := by
  obtain ⟨bs, p, _⟩ := h.mem (List.mem_of_getElem? hj)
  obtain ⟨u', fi, h1, _, h5, _⟩ := rows_elem hr p ha
  rw [hu] at h1
  cases h1
  exact ⟨_, h5⟩

/-- One number of a row, written. -/
theorem Wl.rowSet {v u : Value} {us : List Value} {xs : List (List Int)} {a i j : Nat} {y : Int} {κ : IntKind} (h : Loc H0 L H) (hj : L[j]? = some (.rows (Rd.slice Rd.int) v us xs)) (hu : us[a]? = some u) (ha : a < xs.length) (hi : i < xs[a].length) (hy : I64 y)
    [s : SetI L j (.rows (Rd.slice Rd.int) v us (xs.set a (xs[a].set i y))) L'] (k : ∀ H', Loc H0 L' H' → K undef H') : W.indexAddr 1 u (.int κ i) H fun p H => W.put p (.int .i64 y) H K := by
  obtain ⟨bs, p, _, up⟩ := h.upd hj
  obtain ⟨u', fi, h1, _, h5, h6, h7, h8, h9⟩ := rows_elem rfl p ha
  rw [hu] at h1
  cases h1
  refine Wi.setInt h5 h7 hi hy fun H' m => k H' ?_
  obtain ⟨g1, g2⟩ := h9 H' _ m
  rw [s.eq]
  exact up H' _ bs g2.next (fun c hc hcb => g2.off c hc hcb) g1 fun c hc => .inl hc

/-- A slice of zeros is made. -/
theorem reps_cells {zc : List Value} {m i : Nat} (h : i < m) : cellsAt zc.length (reps m zc) 0 i = zc := by
  induction m generalizing i with
  | zero => omega
  | succ m ih =>
    have e : reps (m + 1) zc = zc ++ reps m zc := by simp [reps, List.replicate_succ]
    rw [e]
    by_cases h0 : i = 0
    · subst h0
      unfold cellsAt
      simp
    · rw [cellsAt_append_right (a := 1) (by omega) (by omega)]
      exact ih (by omega)

theorem Wl.make {α : Type} {r : Rd α} {m : Nat} {zc : List Value} {ty : TypeId} {κ κ' : IntKind} {z : α} (hz : ∀ H, r.rel H [] zc z) (h : Loc H0 L H) (hm : m ≤ 17179869184) (hc : 0 < r.n)
    (k : ∀ H' v, Loc H0 (.grow r ty v (List.replicate m z) :: L) H' → K v H') : W.make zc ty (.int κ m) (.int κ' m) H K := by
  have hl : zc.length = r.n := r.len (hz H)
  refine Wi.make hm fun H' l n hb => k H' _ (h.cons l (bs := [H.next]) (.inr ⟨H.next, 2 * m, _, fun _ => [], by simp, by simp, ?_, by simp, ?_, ⟨by omega, hb, by simp, by simp; omega, ?_, ?_⟩, rfl, hl, ?_, ?_⟩) fun b hb => by simp at hb; omega)
  · rw [flat_nil fun i _ => rfl]
  · intro c hc kc hk
    simp at hc
    subst hc
    rw [hb] at hk
    cases hk
    rfl
  · simp [reps_length, hl]
  · intro i hi
    simp at hi
    simp only [List.getElem_replicate]
    rw [← hl, reps_cells hi]
    exact hz H'
  · simp [reps_length, hl]
  · rw [List.all_eq_true]
    intro c hc
    simp only [reps, List.mem_flatten, List.mem_replicate] at hc
    obtain ⟨l, ⟨_, rfl⟩, hc⟩ := hc
    exact List.all_eq_true.1 (r.cell (hz H)) c hc

/-- An empty literal. -/
theorem Wl.lit0 {α : Type} (r : Rd α) {zc : List Value} {ty : TypeId} (hz : zc.length = r.n) (h : Loc H0 L H) (k : ∀ H' v, Loc H0 (.grow r ty v [] :: L) H' → K v H') : W.lit 0 zc ty [] H K := by
  refine Wi.lit (cells := []) rfl fun H' l n hb => k H' _ (h.cons l (bs := [H.next]) (.inr ⟨H.next, 0, _, fun _ => [], rfl, rfl, rfl, by simp, ?_, ⟨by omega, hb, by simp, by simp, by simp, fun i hi => by simp at hi⟩, rfl, hz, by simp, rfl⟩) fun b hb => by simp at hb; omega)
  intro c hc kc hk
  simp at hc
  subst hc
  rw [hb] at hk
  cases hk
  rfl

/-- One element that was made is appended. -/
theorem Wl.pushO {α : Type} {r : Rd α} (hr : r.n = 1) {ty ty' : TypeId} {v u zv : Value} {x : α} {xs : List α} {i j : Nat} (h : Loc H0 L H) [c : AtV L [v] (.grow r ty v xs) i] [d : AtV L [u] (.data r [u] x) j] {L2 : Value → List (Atom H0.next)} {L3 : Value → List (Atom H0.next)}
    [s : ∀ v', SetI L i (.grow r ty v' (xs ++ [x])) (L2 v')] [s3 : ∀ v', SetI (L2 v') j .emp (L3 v')] (hij : i ≠ j) (hcu : cellsA u = some [u]) (hlen : xs.length < 17179869184) (k : ∀ H' v', Loc H0 (L3 v') H' → K v' H') :
    W.lit 1 [zv] ty' [(0, 1, u)] H fun y H => W.append 1 ty v y H K := by
  refine Wi.lit (cells := [u]) ?_ fun H1 l1 n1 k1 => ?_
  · simp [fillA, hcu, reps]
  · obtain ⟨bs, cs, p1, ⟨q1, q2, q3⟩, hd, _, _, up⟩ := (h.to l1).upd2 c.get d.get hij
    have hs : srcCells r.n H1 (.slice (some (adr H.next 0)) 1 (2 * 1)) = some (([x] : List α).length, [u]) := by
      simp [srcCells, Heap.getN, k1, hr]
    have := grow_append (zs := [x]) (K := K) p1 hs (by simp) (by simp [hr]) (r.cell q1) (by simp; omega) (fun _ => cs) (fun i hi => ?_) (by simpa using q2) (by simpa using hd) fun H2 v' bs' p' hn hsame hbs => ?_
    · rw [hr] at this
      exact this
    · have : i = 0 := by simp at hi; omega
      subst this
      refine ⟨?_, q3⟩
      rw [hr]
      exact q1
    · refine k H2 v' ?_
      rw [(s3 v').eq, (s v').eq]
      refine up H2 _ bs' hn (fun c hc h1 _ => hsame c hc h1) p' fun c hc => ?_
      rcases hbs c hc with h | h | h
      · exact .inl h
      · exact .inr (.inl (by simpa using h))
      · exact .inr (.inr h)

end
end Go.Ab

/-! Addresses of elements; the laws' helpers over things. -/
namespace Go.Ab

/-- Where the i-th element of a slice lies. -/
def elemPtr (m : Nat) (v : Value) (i : Nat) : Value := match v with | .slice (some a) _ _ => .pointer (some (a.add (i * m))) | _ => undef

section
variable {H0 H H' : Heap} {L L' L2 : List (Atom H0.next)} {K : Post}

/-! ### Calls of the laws' helpers -/

end
end Go.Ab

/-! Loops that count. -/
namespace Go.Ab

/-- A loop of at most n rounds, each told by what holds at its head. -/
theorem W.for_rule {S : Type} {F : (S → Heap → Prop) → S → Heap → Prop} (n : Nat) (Inv : Nat → S → Heap → Prop) {s : S} {H : Heap} (h0 : Inv 0 s H)
    (step : ∀ (i : Nat) (s : S) (H : Heap) (J : S → Heap → Prop), i ≤ n → Inv i s H → (∀ s' H', i < n → Inv (i + 1) s' H' → J s' H') → F J s H) : W.loop F s H := by
  intro I hI
  have key : ∀ m i s H, m + i = n → Inv i s H → I s H := by
    intro m
    induction m with
    | zero =>
      intro i s H hm hi
      exact hI I s H (fun _ _ h => h) (step i s H I (by omega) hi fun _ _ hlt _ => by omega)
    | succ m ih =>
      intro i s H hm hi
      exact hI I s H (fun _ _ h => h) (step i s H I (by omega) hi fun s' H' _ h' => ih (i + 1) s' H' (by omega) h')
  exact key n 0 s H (by omega) h0

/-- A loop that looks whether something holds of all numbers below n, and ends where it does not. -/
theorem W.all_rule {t : Nat} {F : (St [t] → Heap → Prop) → St [t] → Heap → Prop} (n : Nat) (p : Nat → Bool) {H : Heap}
    (step : ∀ (i : Nat) (H' : Heap) (J : St [t] → Heap → Prop), i < n → (∀ j, j < i → p j = true) → H.Le H' → (p i = true → ∀ H2, H'.Le H2 → J (.int .i64 ((i + 1 : Nat) : Int), ()) H2) → F J (.int .i64 (i : Nat), ()) H')
    (stop : ∀ (H' : Heap) (J : St [t] → Heap → Prop), (∀ j, j < n → p j = true) → H.Le H' → F J (.int .i64 (n : Nat), ()) H') : W.loop F (.int .i64 0, ()) H := by
  refine W.for_rule n (fun i s H' => s = (.int .i64 (i : Nat), ()) ∧ H.Le H' ∧ ∀ j, j < i → p j = true) ⟨rfl, .refl _, fun j hj => by omega⟩ ?_
  rintro i s H1 J hi ⟨rfl, l, hp⟩ hJ
  by_cases h : i < n
  · refine step i H1 J h hp l fun hpi H2 l2 => hJ _ H2 h ⟨rfl, l.trans l2, fun j hj => ?_⟩
    by_cases hji : j < i
    · exact hp j hji
    · have : j = i := by omega
      subst this
      exact hpi
  · have : i = n := by omega
    subst this
    exact stop H1 J hp l

def allN (n : Nat) (p : Nat → Bool) : Bool := (List.range n).all p

theorem allN_true {n : Nat} {p : Nat → Bool} (h : ∀ j, j < n → p j = true) : allN n p = true := by
  unfold allN
  rw [List.all_eq_true]
  intro j hj
  exact h j (by simpa using hj)

theorem allN_false {n i : Nat} {p : Nat → Bool} (hi : i < n) (h : p i = false) : allN n p = false := by
  unfold allN
  rw [List.all_eq_false]
  exact ⟨i, by simpa using hi, by simp [h]⟩

theorem allN_iff {n : Nat} {p : Nat → Bool} : allN n p = true ↔ ∀ j, j < n → p j = true := by
  unfold allN
  rw [List.all_eq_true]
  exact ⟨fun h j hj => h j (by simpa using hj), fun h j hj => h j (by simpa using hj)⟩

section
variable {H : Heap} {k : Post} {κ : IntKind}

/-- Comparisons, both ways. -/
theorem Wi.lssC {a b : Int} (h1 : a < b → k (.bool true) H) (h2 : ¬ a < b → k (.bool false) H) : W.bin .lss (.int κ a) (.int κ b) H k := by
  refine Wi.lss ?_
  by_cases h : a < b
  · rw [decide_eq_true h]; exact h1 h
  · rw [decide_eq_false h]; exact h2 h
theorem Wi.gtrC {a b : Int} (h1 : b < a → k (.bool true) H) (h2 : ¬ b < a → k (.bool false) H) : W.bin .gtr (.int κ a) (.int κ b) H k := by
  refine Wi.gtr ?_
  by_cases h : b < a
  · rw [decide_eq_true h]; exact h1 h
  · rw [decide_eq_false h]; exact h2 h
theorem Wi.geqC {a b : Int} (h1 : b ≤ a → k (.bool true) H) (h2 : ¬ b ≤ a → k (.bool false) H) : W.bin .geq (.int κ a) (.int κ b) H k := by
  refine Wi.geq ?_
  by_cases h : b ≤ a
  · rw [decide_eq_true h]; exact h1 h
  · rw [decide_eq_false h]; exact h2 h
theorem Wi.eqlC {a b : Int} (h1 : a = b → k (.bool true) H) (h2 : a ≠ b → k (.bool false) H) : W.bin .eql (.int κ a) (.int κ b) H k := by
  refine Wi.eql ?_
  by_cases h : a = b
  · rw [show (a == b) = true by simp [h]]; exact h1 h
  · rw [show (a == b) = false by simp [h]]; exact h2 h
theorem Wi.neqC {a b : Int} (h1 : a ≠ b → k (.bool true) H) (h2 : a = b → k (.bool false) H) : W.bin .neq (.int κ a) (.int κ b) H k := by
  refine Wi.neq ?_
  by_cases h : a = b
  · rw [show (a != b) = false by simp [h]]; exact h2 h
  · rw [show (a != b) = true by simp [h]]; exact h1 h
end

/-! ### Words that a known truth value decides, as equations -/
section
variable {H : Heap} {k : Post} {op : Heap → Post → Prop} {a b c d : Value} {A B : Heap → Prop}
theorem g1 : W.guarded (.bool true) true op H k = op H k := rfl
theorem g2 : W.guarded (.bool false) true op H k = k undef H := rfl
theorem g3 : W.guarded (.bool true) false op H k = k undef H := rfl
theorem g4 : W.guarded (.bool false) false op H k = op H k := rfl
theorem g5 : W.pick (.bool true) a b H k = k a H := rfl
theorem g6 : W.pick (.bool false) a b H k = k b H := rfl
theorem g7 : W.cond (.bool true) H A B = A H := rfl
theorem g8 : W.cond (.bool false) H A B = B H := rfl
theorem g9 : W.un .not (.bool true) H k = k (.bool false) H := rfl
theorem g10 : W.un .not (.bool false) H k = k (.bool true) H := rfl
theorem g11 : W.extract 0 (.tuple #[a, b]) H k = k a H := rfl
theorem g12 : W.extract 1 (.tuple #[a, b]) H k = k b H := rfl
theorem g15 : W.extract 2 (.tuple #[a, b, c]) H k = k c H := rfl
theorem g16 : W.extract 0 (.tuple #[a, b, c, d]) H k = k a H := rfl
theorem g17 : W.extract 1 (.tuple #[a, b, c, d]) H k = k b H := rfl
theorem g18 : W.extract 2 (.tuple #[a, b, c, d]) H k = k c H := rfl
theorem g19 : W.extract 3 (.tuple #[a, b, c, d]) H k = k d H := rfl
end

/-- All of these at once. -/
theorem gw : (∀ (H : Heap) (k : Post) (op : Heap → Post → Prop), W.guarded (.bool true) true op H k = op H k) ∧ (∀ (H : Heap) (k : Post) (op : Heap → Post → Prop), W.guarded (.bool false) true op H k = k undef H) ∧
    (∀ (H : Heap) (k : Post) (op : Heap → Post → Prop), W.guarded (.bool true) false op H k = k undef H) ∧ (∀ (H : Heap) (k : Post) (op : Heap → Post → Prop), W.guarded (.bool false) false op H k = op H k) ∧
    (∀ (H : Heap) (k : Post) (a b : Value), W.pick (.bool true) a b H k = k a H) ∧ (∀ (H : Heap) (k : Post) (a b : Value), W.pick (.bool false) a b H k = k b H) ∧
    (∀ (H : Heap) (A B : Heap → Prop), W.cond (.bool true) H A B = A H) ∧ (∀ (H : Heap) (A B : Heap → Prop), W.cond (.bool false) H A B = B H) ∧
    (∀ (H : Heap) (k : Post), W.un .not (.bool true) H k = k (.bool false) H) ∧ (∀ (H : Heap) (k : Post), W.un .not (.bool false) H k = k (.bool true) H) ∧
    (∀ (H : Heap) (k : Post) (a b : Value), W.extract 0 (.tuple #[a, b]) H k = k a H) ∧ (∀ (H : Heap) (k : Post) (a b : Value), W.extract 1 (.tuple #[a, b]) H k = k b H) ∧
    (∀ (H : Heap) (k : Post) (a b c : Value), W.extract 0 (.tuple #[a, b, c]) H k = k a H) ∧ (∀ (H : Heap) (k : Post) (a b c : Value), W.extract 1 (.tuple #[a, b, c]) H k = k b H) ∧ (∀ (H : Heap) (k : Post) (a b c : Value), W.extract 2 (.tuple #[a, b, c]) H k = k c H) ∧
    (∀ (H : Heap) (k : Post) (a b c d : Value), W.extract 0 (.tuple #[a, b, c, d]) H k = k a H) ∧ (∀ (H : Heap) (k : Post) (a b c d : Value), W.extract 1 (.tuple #[a, b, c, d]) H k = k b H) ∧
    (∀ (H : Heap) (k : Post) (a b c d : Value), W.extract 2 (.tuple #[a, b, c, d]) H k = k c H) ∧ (∀ (H : Heap) (k : Post) (a b c d : Value), W.extract 3 (.tuple #[a, b, c, d]) H k = k d H) ∧ (∀ (H : Heap) (k : Post) (w : Bool) (op : Heap → Post → Prop), W.guarded undef w op H k = k undef H) :=
  ⟨fun _ _ _ => rfl, fun _ _ _ => rfl, fun _ _ _ => rfl, fun _ _ _ => rfl, fun _ _ _ _ => rfl, fun _ _ _ _ => rfl, fun _ _ _ => rfl, fun _ _ _ => rfl, fun _ _ => rfl, fun _ _ => rfl,
   fun _ _ _ _ => rfl, fun _ _ _ _ => rfl, fun _ _ _ _ _ => rfl, fun _ _ _ _ _ => rfl, fun _ _ _ _ _ => rfl, fun _ _ _ _ _ _ => rfl, fun _ _ _ _ _ _ => rfl, fun _ _ _ _ _ _ => rfl, fun _ _ _ _ _ _ => rfl, fun _ _ _ _ => rfl⟩

theorem Has.len {α : Type} {r : Rd α} {H : Heap} {cs : List Value} {x : α} (h : Has r H cs x) : cs.length = r.n := let ⟨_, h⟩ := h; r.len h
theorem Has.cell {α : Type} {r : Rd α} {H : Heap} {cs : List Value} {x : α} (h : Has r H cs x) : cs.all isCell = true := let ⟨_, h⟩ := h; r.cell h

/-- A thing told as two. -/
theorem Loc.split {H0 H : Heap} {L : List (Atom H0.next)} {a a1 a2 : Atom H0.next} (h : Loc H0 (a :: L) H)
    (hp : ∀ bs, a.P H bs → ∃ b1 b2, a1.P H b1 ∧ a2.P H b2 ∧ (∀ c ∈ b1, c ∈ bs) ∧ (∀ c ∈ b2, c ∈ bs) ∧ ∀ c ∈ b1, c ∉ b2) : Loc H0 (a1 :: a2 :: L) H := by
  obtain ⟨le, F, h1, h2⟩ := h
  obtain ⟨p0, q0⟩ := h1 0 a rfl
  obtain ⟨b1, b2, p1, p2, s1, s2, hd⟩ := hp _ p0
  have k1 : ∀ j c, L[j]? = some c → c.P H (F (j + 1)) ∧ ∀ b ∈ F (j + 1), H0.next ≤ b := fun j c hj => h1 (j + 1) c (by simpa using hj)
  have k2 : ∀ j c, L[j]? = some c → ∀ b ∈ F 0, b ∉ F (j + 1) := fun j c hj => h2 0 (j + 1) a c (by omega) rfl (by simpa using hj)
  refine ⟨le, fun j => match j with | 0 => b1 | 1 => b2 | j + 2 => F (j + 1), fun j c hj => ?_, fun j k c d hjk hj hk b hbj hbk => ?_⟩
  · match j, hj with
    | 0, hj =>
      simp only [List.getElem?_cons_zero, Option.some.injEq] at hj
      subst hj
      exact ⟨p1, fun b hb => q0 b (s1 b hb)⟩
    | 1, hj =>
      simp only [List.getElem?_cons_succ, List.getElem?_cons_zero, Option.some.injEq] at hj
      subst hj
      exact ⟨p2, fun b hb => q0 b (s2 b hb)⟩
    | j + 2, hj => exact k1 j c (by simpa using hj)
  · match j, k, hj, hk, hbj, hbk with
    | 0, 0, _, _, _, _ => exact hjk rfl
    | 1, 1, _, _, _, _ => exact hjk rfl
    | 0, 1, _, _, hbj, hbk => exact hd b hbj hbk
    | 1, 0, _, _, hbj, hbk => exact hd b hbk hbj
    | 0, k + 2, _, hk, hbj, hbk => exact k2 k d (by simpa using hk) b (s1 b hbj) hbk
    | 1, k + 2, _, hk, hbj, hbk => exact k2 k d (by simpa using hk) b (s2 b hbj) hbk
    | j + 2, 0, hj, _, hbj, hbk => exact k2 j c (by simpa using hj) b (s1 b hbk) hbj
    | j + 2, 1, hj, _, hbj, hbk => exact k2 j c (by simpa using hj) b (s2 b hbk) hbj
    | j + 2, k + 2, hj, hk, hbj, hbk => exact h2 (j + 1) (k + 1) c d (by omega) (by simpa using hj) (by simpa using hk) b hbj hbk

/-- Two things made at once. -/
theorem Loc.add2 {H0 H H' : Heap} {L : List (Atom H0.next)} {α β : Type} {r : Rd α} {s : Rd β} {c1 c2 : List Value} {x : α} {y : β} (h : Loc H0 L H) (hl : c1.length = r.n) (f : Fresh (r.pair s) H (c1 ++ c2) (x, y) H') :
    Loc H0 (.data r c1 x :: .data s c2 y :: L) H' := by
  refine (h.add f).split fun bs ⟨⟨b1, b2, d1, d2, hbs, hc, h1, h2⟩, hn, hrw⟩ => ?_
  subst hbs
  have e1 : c1 = d1 := (List.append_inj hc (by rw [hl, r.len h1])).1
  have e2 : c2 = d2 := (List.append_inj hc (by rw [hl, r.len h1])).2
  subst e1 e2
  have hd := List.nodup_append.1 hn
  exact ⟨b1, b2, ⟨h1, hd.1, hrw.left⟩, ⟨h2, hd.2.1, hrw.right⟩, fun c hc => List.mem_append_left _ hc, fun c hc => List.mem_append_right _ hc, fun c h1 h2 => hd.2.2 c h1 c h2 rfl⟩

end Go.Ab
