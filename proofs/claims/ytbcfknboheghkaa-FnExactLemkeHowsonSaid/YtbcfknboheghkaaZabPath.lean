/- Ways by partners do not lead back to where they began. No program here. -/
import Derived.Test.YtbcfknboheghkaaZabTab
namespace Go.Ab

def partN (n x : Nat) : Nat := if x < n then x + n else x - n

theorem partN_lt {n x : Nat} (h : x < 2 * n) : partN n x < 2 * n := by unfold partN; split <;> omega
theorem partN_two {n x : Nat} (h : x < 2 * n) : partN n (partN n x) = x := by unfold partN; split <;> split <;> omega
theorem partN_ne {n x : Nat} (h : x < 2 * n) : partN n x ≠ x := by unfold partN; split <;> omega

/-- A way: tables, what enters and in which rows. -/
structure LWay (n : Nat) (E : Mat) (a M : Nat) (bs : Nat → Nat → Nat) (T : Nat → Mat) (d : Nat → Int) (v r : Nat → Nat) : Prop where
  tab : ∀ m, m ≤ M + 1 → Tabl n (2 * n + 1) E (bs m) (T m) (d m)
  low : ∀ m, m ≤ M + 1 → ∀ k, k < n → bs m k < 2 * n
  vlt : ∀ m, m ≤ M → v m < 2 * n
  go : ∀ m, m ≤ M → Least n (2 * n) (T m) (v m) (r m)
  back : ∀ m, m ≤ M → Least n (2 * n) (T (m + 1)) (bs m (r m)) (r m)
  bas : ∀ m, m ≤ M → ∀ k, k < n → bs (m + 1) k = if k = r m then v m else bs m k
  par : ∀ m, m < M → v (m + 1) = partN n (bs m (r m))
  no : ∀ m, m < M → bs m (r m) ≠ a ∧ bs m (r m) ≠ n + a
  last : bs M (r M) = a ∨ bs M (r M) = n + a
  v0 : v 0 = n + a
  b0 : ∀ k, k < n → bs 0 k = k
  alt : a < n

section
variable {n : Nat} {E : Mat} {a M : Nat} {bs : Nat → Nat → Nat} {T : Nat → Mat} {d : Nat → Int} {v r : Nat → Nat}

def Has1 (n : Nat) (bs : Nat → Nat → Nat) (m b : Nat) : Prop := ∃ k, k < n ∧ bs m k = b

theorem LWay.hasl (h : LWay n E a M bs T d v r) {m : Nat} (hm : m ≤ M) : Has1 n bs m (bs m (r m)) := ⟨r m, (h.go m hm).lt, rfl⟩

theorem LWay.has (h : LWay n E a M bs T d v r) {m : Nat} (hm : m ≤ M) (b : Nat) : Has1 n bs (m + 1) b ↔ b = v m ∨ Has1 n bs m b ∧ b ≠ bs m (r m) := by
  have hr := (h.go m hm).lt
  constructor
  · rintro ⟨k, hk, rfl⟩
    rw [h.bas m hm k hk]
    by_cases e : k = r m
    · rw [if_pos e]; exact .inl rfl
    · rw [if_neg e]
      exact .inr ⟨⟨k, hk, rfl⟩, fun g => e ((h.tab m (by omega)).inj k (r m) hk hr g)⟩
  · rintro (rfl | ⟨⟨k, hk, rfl⟩, hne⟩)
    · exact ⟨r m, hr, by rw [h.bas m hm _ hr, if_pos rfl]⟩
    · exact ⟨k, hk, by rw [h.bas m hm k hk, if_neg fun e => hne (by rw [e])]⟩

/-- What enters is not there; no pair but that of a is there; the partner of what enters is not there. -/
theorem LWay.inv (h : LWay n E a M bs T d v r) : ∀ m, m ≤ M → ¬ Has1 n bs m (v m) ∧ (∀ j, j < n → j ≠ a → ¬ (Has1 n bs m j ∧ Has1 n bs m (n + j))) ∧ (Has1 n bs m (partN n (v m)) → v m = n + a)
  | 0, _ => by
    have ha := h.alt
    have e : ∀ b, Has1 n bs 0 b → b < n := fun b ⟨k, hk, e⟩ => by rw [h.b0 k hk] at e; omega
    exact ⟨fun g => by have := e _ g; rw [h.v0] at this; omega, fun j hj _ g => by have := e _ g.2; omega, fun _ => h.v0⟩
  | m + 1, hm => by
    obtain ⟨i1, i2, i3⟩ := h.inv m (by omega)
    have ha := h.alt
    obtain ⟨no1, no2⟩ := h.no m (by omega)
    have hl := h.hasl (m := m) (by omega)
    have hl2 : bs m (r m) < 2 * n := h.low m (by omega) _ (h.go m (by omega)).lt
    have hv2 := h.vlt m (by omega)
    have ev := h.par m (by omega)
    -- the partner of what leaves is not there
    have np : ¬ Has1 n bs m (partN n (bs m (r m))) := fun g => by
      by_cases c : bs m (r m) < n
      · refine i2 (bs m (r m)) c no1 ⟨hl, ?_⟩
        rw [show partN n (bs m (r m)) = n + bs m (r m) by unfold partN; rw [if_pos c]; omega] at g
        exact g
      · refine i2 (bs m (r m) - n) (by omega) (by omega) ⟨?_, ?_⟩
        · rw [show partN n (bs m (r m)) = bs m (r m) - n by unfold partN; rw [if_neg c]] at g
          exact g
        · rw [show n + (bs m (r m) - n) = bs m (r m) by omega]
          exact hl
    refine ⟨fun g => ?_, fun j hj hja g => ?_, fun g => ?_⟩
    · rw [ev] at g
      rcases (h.has (by omega) _).1 g with e | ⟨g1, _⟩
      · have e2 : bs m (r m) = partN n (v m) := by rw [← e, partN_two hl2]
        have e3 := i3 (by rw [← e2]; exact hl)
        rw [e3] at e2
        unfold partN at e2
        rw [if_neg (by omega)] at e2
        omega
      · exact np g1
    · rcases (h.has (by omega) _).1 g.1 with e | ⟨g1, _⟩
      · rcases (h.has (by omega) _).1 g.2 with e' | ⟨g1', _⟩
        · omega
        · have := i3 (by
            rw [show partN n (v m) = n + j by unfold partN; rw [if_pos (by omega)]; omega]
            exact g1')
          omega
      · rcases (h.has (by omega) _).1 g.2 with e' | ⟨g1', _⟩
        · have := i3 (by
            rw [show partN n (v m) = j by unfold partN; rw [if_neg (by omega)]; omega]
            exact g1)
          omega
        · exact i2 j hj hja ⟨g1, g1'⟩
    · exfalso
      rw [ev, partN_two hl2] at g
      rcases (h.has (by omega) _).1 g with e | ⟨_, g2⟩
      · exact i1 (by rw [← e]; exact hl)
      · exact g2 rfl

theorem LWay.mirror (h : LWay n E a M bs T d v r) (hs : ∀ b, Has1 n bs (M + 1) b ↔ Has1 n bs 0 b) : ∀ i, i ≤ M → (∀ b, Has1 n bs (M + 1 - i) b ↔ Has1 n bs i b) ∧ bs (M - i) (r (M - i)) = v i
  | 0, _ => by
    refine ⟨hs, ?_⟩
    rw [Nat.sub_zero, h.v0]
    rcases h.last with e | e
    · exfalso
      have ha := h.alt
      have g : Has1 n bs (M + 1) a := (hs a).2 ⟨a, ha, h.b0 a ha⟩
      rcases (h.has (Nat.le_refl M) _).1 g with e2 | ⟨_, g2⟩
      · refine (h.inv M (Nat.le_refl M)).1 ?_
        rw [← e2, ← e]
        exact h.hasl (Nat.le_refl M)
      · exact g2 e.symm
    · exact e
  | i + 1, hi => by
    obtain ⟨s1, s2⟩ := h.mirror hs i (by omega)
    have hl2 : bs (M - i) (r (M - i)) < 2 * n := h.low _ (by omega) _ (h.go _ (by omega)).lt
    have e1 : M + 1 - i = (M - i) + 1 := by omega
    rw [e1] at s1
    have b1 := h.back (M - i) (by omega)
    rw [s2] at b1
    have key := (h.tab i (by omega)).same (h.tab (M - i + 1) (by omega)) (fun b => (s1 b).symm) (by omega) (by have := h.vlt i (by omega); omega) (h.go i (by omega)) b1
    rw [h.bas (M - i) (by omega) _ (h.go (M - i) (by omega)).lt, if_pos rfl] at key
    refine ⟨fun b => ?_, ?_⟩
    · rw [show M + 1 - (i + 1) = M - i by omega]
      have a1 := h.has (m := M - i) (by omega) b
      have a2 := h.has (m := i) (by omega) b
      have ni := (h.inv (M - i) (by omega)).1
      rw [a2]
      constructor
      · intro g
        by_cases c : b = bs (M - i) (r (M - i))
        · exact .inl (by rw [c, s2])
        · refine .inr ⟨(s1 b).1 (a1.2 (.inr ⟨g, c⟩)), fun e => ?_⟩
          rw [key] at e
          subst e
          exact ni g
      · rintro (rfl | ⟨g1, g2⟩)
        · rw [← s2]
          exact h.hasl (by omega)
        · rcases a1.1 ((s1 b).2 g1) with e | ⟨g3, _⟩
          · exact absurd (e.trans key.symm) g2
          · exact g3
    · have hl3 : bs (M - (i + 1)) (r (M - (i + 1))) < 2 * n := h.low _ (by omega) _ (h.go _ (by omega)).lt
      have p1 := h.par (M - (i + 1)) (by omega)
      rw [show M - (i + 1) + 1 = M - i by omega] at p1
      rw [h.par i (by omega), key, p1, partN_two hl3]

/-- The way does not come back. -/
theorem LWay.off (h : LWay n E a M bs T d v r) : ¬ ∀ b, Has1 n bs (M + 1) b ↔ Has1 n bs 0 b := fun hs => by
  rcases Nat.mod_two_eq_zero_or_one M with e | e
  · have hj : M - M / 2 = M / 2 := by omega
    have := (h.mirror hs (M / 2) (by omega)).2
    rw [hj] at this
    refine (h.inv (M / 2) (by omega)).1 ?_
    rw [← this]
    exact h.hasl (by omega)
  · have hj : M - (M / 2 + 1) = M / 2 := by omega
    have := (h.mirror hs (M / 2 + 1) (by omega)).2
    rw [hj, h.par (M / 2) (by omega)] at this
    exact partN_ne (h.low _ (by omega) _ (h.go _ (by omega)).lt) this.symm

/-- No pair at the end. -/
theorem LWay.comp (h : LWay n E a M bs T d v r) {j : Nat} (hj : j < n) : ¬ (Has1 n bs (M + 1) j ∧ Has1 n bs (M + 1) (n + j)) := fun g => by
  obtain ⟨i1, i2, i3⟩ := h.inv M (Nat.le_refl M)
  have ha := h.alt
  have hl := h.hasl (Nat.le_refl M)
  have out : ¬ Has1 n bs (M + 1) (bs M (r M)) := fun q => by
    rcases (h.has (Nat.le_refl M) _).1 q with e | ⟨_, e⟩
    · exact i1 (by rw [← e]; exact hl)
    · exact e rfl
  by_cases hja : j = a
  · subst hja
    rcases h.last with e | e
    · exact out (by rw [e]; exact g.1)
    · exact out (by rw [e]; exact g.2)
  · rcases (h.has (Nat.le_refl M) _).1 g.1 with e | ⟨g1, _⟩
    · rcases (h.has (Nat.le_refl M) _).1 g.2 with e' | ⟨g1', _⟩
      · omega
      · have := i3 (by
          rw [show partN n (v M) = n + j by unfold partN; rw [if_pos (by omega)]; omega]
          exact g1')
        omega
    · rcases (h.has (Nat.le_refl M) _).1 g.2 with e' | ⟨g1', _⟩
      · have := i3 (by
          rw [show partN n (v M) = j by unfold partN; rw [if_neg (by omega)]; omega]
          exact g1)
        omega
      · exact i2 j hj hja ⟨g1, g1'⟩

end
end Go.Ab
