/- Sources of drawn numbers: a code of bytes, a place in it, a number that runs on. No program here. -/
import Derived.Test.YtbcfknboheghkaaZabG8
import Derived.Test.YtbcfknboheghkaaZabOne
namespace Go.Ab

def Rd.u8 : Rd Int where
  n := 1
  rel := fun _ bs cs x => bs = [] ∧ cs = [.int .u8 x] ∧ 0 ≤ x ∧ x < 256
  len := fun h => by rw [h.2.1]; rfl
  cell := fun h => by rw [h.2.1]; rfl
  low := fun h b hb => by rw [h.1] at hb; cases hb
  frame := fun h _ _ => h
instance : Plain Rd.u8 := ⟨fun ⟨h1, h2, h3⟩ => ⟨h1, fun _ => ⟨rfl, h2, h3⟩⟩⟩

section
variable {H : Heap} {k : Post}

theorem Wi.nilP {b o : Nat} (h : k (pt b o) H) : W.nilCheck (pt b o) H k := h
theorem Wi.min2 {a b : Int} {κ κ' : IntKind} (h : k (.int κ (if b < a then b else a)) H) : W.min2 (.int κ a) (.int κ' b) H k := by
  unfold W.min2
  exact h
end

/-- A source: its variable, its code's bytes. -/
def Atom.src {n : Nat} (b : Nat) (vc : Value) (code : List Int) : Atom n where
  P := fun H bs => bs = [b] ∧ b < H.next ∧ (∃ (a : Nat) (h : Int) (ty : TypeId) (e : Nat), H.blk b = some ⟨[vc, .int .i64 (a : Int), .int .u64 h], ty, e, false⟩ ∧ a ≤ code.length) ∧ ∃ bs', (Rd.slice Rd.u8).rel H bs' [vc] code ∧ ∀ c ∈ bs', c < n
  low := by rintro H bs ⟨rfl, h, _⟩ c hc; simp at hc; omega
  frame := by
    rintro H H' bs ⟨rfl, h, ⟨a, hh, ty, e, hb, ha⟩, bs', hr, hl⟩ _ hn hs
    exact ⟨rfl, by omega, ⟨a, hh, ty, e, by rw [hs b (.inr (by simp))]; exact hb, ha⟩, bs', Rd.frame _ hr hn fun c hc => hs c (.inl (hl c hc)), hl⟩

section
variable {H0 H : Heap} {L : List (Atom H0.next)}

theorem set_same {α : Type} {l : List α} {i : Nat} {a : α} (h : l[i]? = some a) : l.set i a = l := by
  obtain ⟨hlt, rfl⟩ := List.getElem?_eq_some_iff.1 h
  exact List.set_getElem_self hlt

/-- What a source has, and how it goes on. -/
theorem Loc.src (h : Loc H0 L H) {i b : Nat} {vc : Value} {code : List Int} (hi : L[i]? = some (.src b vc code)) : ∃ (a : Nat) (hh : Int) (ty : TypeId) (e : Nat), H.blk b = some ⟨[vc, .int .i64 (a : Int), .int .u64 hh], ty, e, false⟩ ∧ a ≤ code.length ∧ Has (Rd.slice Rd.u8) H [vc] code ∧ H0.next ≤ b ∧
    ∀ H', H.next ≤ H'.next → (∀ c, c < H.next → c ≠ b → H'.blk c = H.blk c) → (∃ (a : Nat) (hh : Int) (ty : TypeId) (e : Nat), H'.blk b = some ⟨[vc, .int .i64 (a : Int), .int .u64 hh], ty, e, false⟩ ∧ a ≤ code.length) → Loc H0 L H' := by
  obtain ⟨bs, ⟨rfl, hb, ⟨a, hh, ty, e, hk, ha⟩, bs', hr, hl⟩, hlow, up⟩ := h.upd hi
  have hb0 : H0.next ≤ b := hlow b (by simp)
  refine ⟨a, hh, ty, e, hk, ha, ⟨bs', hr⟩, hb0, fun H' hn hs hb' => ?_⟩
  have := up H' (.src b vc code) [b] hn (fun c hc hcb => hs c hc (by simpa using hcb)) ⟨rfl, by omega, hb', bs', Rd.frame _ hr hn (fun c hc => hs c (Rd.low _ hr c hc) (fun e => by have := hl c hc; omega)), hl⟩ fun c hc => .inl hc
  rwa [set_same hi] at this

/-- One thing is put first. -/
theorem Loc.front (h : Loc H0 L H) {a : Atom H0.next} (i : Nat) (hi : L[i]? = some a) : Loc H0 (a :: L.eraseIdx i) H := by
  obtain ⟨le, F, h1, h2⟩ := h
  let f : Nat → Nat := fun j => match j with | 0 => i | k + 1 => if k < i then k else k + 1
  have e : ∀ (j : Nat) (c : Atom H0.next), (a :: L.eraseIdx i)[j]? = some c → L[f j]? = some c := fun j c hj => by
    cases j with
    | zero => simp only [List.getElem?_cons_zero] at hj; rw [← hj]; exact hi
    | succ k =>
      rw [List.getElem?_cons_succ, List.getElem?_eraseIdx] at hj
      simp only [f]
      split at hj
      · rename_i g; rw [if_pos g]; exact hj
      · rename_i g; rw [if_neg g]; exact hj
  refine ⟨le, fun j => F (f j), fun j c hj => h1 _ c (e j c hj), fun j k c d hjk hj hk => h2 _ _ c d ?_ (e j c hj) (e k d hk)⟩
  cases j <;> cases k <;> simp only [f] <;> (try split) <;> (try split) <;> omega

/-- What a call made is held beside what was. -/
theorem Loc.join {H' : Heap} {M : List (Atom H.next)} {M' : List (Atom H0.next)} (h : Loc H0 L H) (k : Loc H M H') (e : ∀ (i : Nat) (a' : Atom H0.next), M'[i]? = some a' → ∃ a : Atom H.next, M[i]? = some a ∧ ∀ bs, a.P H' bs → a'.P H' bs) : Loc H0 (M' ++ L) H' := by
  obtain ⟨le2, G, g1, g2⟩ := k
  obtain ⟨le, F, h1, h2⟩ := h.to le2
  obtain ⟨le0, F0, k1, k2⟩ := h
  have l0 : ∀ (i : Nat) (a : Atom H0.next), L[i]? = some a → a.P H' (F0 i) ∧ ∀ c ∈ F0 i, H0.next ≤ c ∧ c < H.next := fun i a hi => by
    obtain ⟨p, q⟩ := k1 i a hi
    exact ⟨a.frame p le0.next le2.next fun c hc => le2.blk c (hc.elim (fun g => Nat.lt_of_lt_of_le g le0.next) fun g => a.low p c g), fun c hc => ⟨q c hc, a.low p c hc⟩⟩
  have at1 : ∀ (i : Nat) (a : Atom H0.next), (M' ++ L)[i]? = some a → (i < M'.length ∧ M'[i]? = some a) ∨ (M'.length ≤ i ∧ L[i - M'.length]? = some a) := fun i a hi => by
    rcases Nat.lt_or_ge i M'.length with g | g
    · rw [List.getElem?_append_left g] at hi; exact .inl ⟨g, hi⟩
    · rw [List.getElem?_append_right g] at hi; exact .inr ⟨g, hi⟩
  refine ⟨le, fun i => if i < M'.length then G i else F0 (i - M'.length), fun i a hi => ?_, fun i j a c hij hi hj d hd hd2 => ?_⟩
  · dsimp only
    rcases at1 i a hi with ⟨g, hm⟩ | ⟨g, hm⟩
    · obtain ⟨a0, q1, q2⟩ := e i a hm
      obtain ⟨p1, p2⟩ := g1 i a0 q1
      rw [if_pos g]
      exact ⟨q2 _ p1, fun c hc => Nat.le_trans le0.next (p2 c hc)⟩
    · rw [if_neg (by omega)]
      obtain ⟨p1, p2⟩ := l0 _ a hm
      exact ⟨p1, fun c hc => (p2 c hc).1⟩
  · dsimp only at hd hd2
    rcases at1 i a hi with ⟨g, hm⟩ | ⟨g, hm⟩ <;> rcases at1 j c hj with ⟨g', hm'⟩ | ⟨g', hm'⟩
    · rw [if_pos g] at hd
      rw [if_pos g'] at hd2
      obtain ⟨a0, q1, _⟩ := e i a hm
      obtain ⟨c0, q3, _⟩ := e j c hm'
      exact g2 i j a0 c0 hij q1 q3 d hd hd2
    · rw [if_pos g] at hd
      rw [if_neg (by omega)] at hd2
      obtain ⟨a0, q1, _⟩ := e i a hm
      have := (g1 i a0 q1).2 d hd
      have := ((l0 _ c hm').2 d hd2).2
      omega
    · rw [if_neg (by omega)] at hd
      rw [if_pos g'] at hd2
      obtain ⟨c0, q1, _⟩ := e j c hm'
      have := (g1 j c0 q1).2 d hd2
      have := ((l0 _ a hm).2 d hd).2
      omega
    · rw [if_neg (by omega)] at hd
      rw [if_neg (by omega)] at hd2
      exact k2 _ _ a c (by omega) hm hm' d hd hd2

end
end Go.Ab
