/- The laws' own helpers, once for all types: comparing, marking, telling marks. -/
import Derived.Test.YtdbdmlfnggbdiaaZabRd
namespace Go.Ab

theorem Rd.slice_val {α : Type} {r : Rd α} {H : Heap} {bs : List Nat} {cs : List Value} {xs : List α} (h : (Rd.slice r).rel H bs cs xs) : ∃ a e, cs = [.slice a xs.length e] := by
  rcases h with ⟨rfl, _, h | h | ⟨a, h⟩⟩ | ⟨b, o, e, kb, fs, _, h, _⟩
  · exact ⟨_, _, h⟩
  · exact ⟨_, _, h⟩
  · exact ⟨_, _, h⟩
  · exact ⟨_, _, h⟩

theorem Rd.slice_small {α : Type} {r : Rd α} {H : Heap} {bs : List Nat} {cs : List Value} {xs : List α} (h : (Rd.slice r).rel H bs cs xs) : xs.length < 9223372036854775808 := by
  rcases h with ⟨rfl, _, h | h | ⟨a, h⟩⟩ | ⟨b, o, e, kb, fs, _, h, s⟩
  · simp
  · simp
  · simp
  · exact s.small

/-- The i-th element. -/
theorem Rd.slice_at {α : Type} {r : Rd α} {H : Heap} {bs : List Nat} {v : Value} {xs : List α} (h : (Rd.slice r).rel H bs [v] xs) {i : Nat} (hi : i < xs.length) :
    ∃ b o e kb fs, v = .slice (some (adr b o)) xs.length e ∧ bs = b :: (List.range xs.length).flatMap fs ∧ SlAt r H b o e kb fs xs := by
  rcases h with ⟨rfl, _, _⟩ | ⟨b, o, e, kb, fs, h1, h2, s⟩
  · simp at hi
  · exact ⟨b, o, e, kb, fs, by simpa using h2, h1, s⟩

theorem cellsAt_one {cells : List Value} {o i : Nat} (h : o + i * 1 < cells.length) : cellsAt 1 cells o i = [cells[o + i * 1]] := by
  unfold cellsAt
  rw [List.drop_eq_getElem_cons h]
  rfl

theorem SlAt.in {α : Type} {r : Rd α} {H : Heap} {b o e : Nat} {kb : Blk} {fs : Nat → List Nat} {xs : List α} (s : SlAt r H b o e kb fs xs) {i : Nat} (hi : i < xs.length) : o + i * r.n + r.n ≤ kb.cells.length := by
  have h1 := s.room
  have h2 : (i + 1) * r.n ≤ xs.length * r.n := Nat.mul_le_mul_right _ hi
  rw [Nat.succ_mul] at h2
  omega

theorem SlAt.one {α : Type} {r : Rd α} (hr : r.n = 1) {H : Heap} {b o e : Nat} {kb : Blk} {fs : Nat → List Nat} {xs : List α} (s : SlAt r H b o e kb fs xs) {i : Nat} (hi : i < xs.length) :
    ∃ u, kb.cells[o + i * 1]? = some u ∧ r.rel H (fs i) [u] xs[i] := by
  have h1 := s.in hi
  have h2 := s.each i hi
  rw [hr] at h1 h2
  have h3 : o + i * 1 < kb.cells.length := by omega
  rw [cellsAt_one h3] at h2
  exact ⟨_, List.getElem?_eq_getElem h3, h2⟩

/-! ### Comparing -/

/-- How two values are compared: what follows if they differ, and if not. -/
abbrev Cmp := Value → Value → Heap → (Heap → Prop) → (Heap → Prop) → Prop

def CmpOK {α : Type} (r : Rd α) (C : Cmp) : Prop :=
  ∀ H b1 b2 u1 u2 x y A B, r.rel H b1 [u1] x → r.rel H b2 [u2] y → (x ≠ y → ∀ H', H.Le H' → A H') → (x = y → ∀ H', H.Le H' → B H') → C u1 u2 H A B

def eqSliceW (n : Nat) (C : Cmp) (Q : Post) (a b : Value) (H : Heap) : Prop :=
  W.len a H fun v1 H => W.len b H fun v2 H => W.bin .neq v1 v2 H fun v3 H => W.cond v3 H (fun H => Q (.bool false) H)
    (fun H => W.loop (S := St [n]) (fun I s H =>
      W.len a H fun v4 H => W.bin .lss s.1 v4 H fun v5 H => W.cond v5 H
        (fun H => W.indexAddr 1 a s.1 H fun v6 H => W.get v6 H fun v7 H => W.indexAddr 1 b s.1 H fun v8 H => W.get v8 H fun v9 H =>
          C v7 v9 H (fun H => Q (.bool false) H) (fun H => W.bin .add s.1 (.int .i64 1) H fun v12 H => I (v12, ()) H))
        (fun H => Q (.bool true) H)) ((.int .i64 0), ()) H)

theorem eqSlice_ok {α : Type} {r : Rd α} (hr : r.n = 1) {C : Cmp} (hC : CmpOK r C) {n : Nat} {Q : Post} {H : Heap} {b1 b2 : List Nat} {a b : Value} {xs ys : List α}
    (h1 : (Rd.slice r).rel H b1 [a] xs) (h2 : (Rd.slice r).rel H b2 [b] ys)
    (ht : xs = ys → ∀ H', H.Le H' → Q (.bool true) H') (hf : xs ≠ ys → ∀ H', H.Le H' → Q (.bool false) H') : eqSliceW n C Q a b H := by
  have hx := Rd.slice_small h1
  obtain ⟨p1, e1, g1⟩ := Rd.slice_val h1
  obtain ⟨p2, e2, g2⟩ := Rd.slice_val h2
  simp only [List.cons.injEq, and_true] at g1 g2
  unfold eqSliceW
  rw [g1, g2]
  refine Wi.len (Wi.len (Wi.neq (Wi.cond (fun hne => ?_) fun heq => ?_)))
  · exact hf (fun e => by subst e; simp at hne) H (.refl _)
  have hl : xs.length = ys.length := by
    simp only [bne_eq_false_iff_eq] at heq
    omega
  rw [← g1, ← g2]
  refine W.loop_rule (fun s H' => ∃ i : Nat, s = ((.int .i64 i), ()) ∧ i ≤ xs.length ∧ H.Le H' ∧ ∀ (j : Nat) (hj : j < i) (g1 : j < xs.length) (g2 : j < ys.length), xs[j] = ys[j])
    (fun s _ => match s.1 with | .int _ i => xs.length - i.toNat | _ => 0) ⟨0, rfl, Nat.zero_le _, .refl _, fun j hj => by omega⟩ ?_
  rintro s H1 ⟨i, rfl, hi, hle, heq'⟩
  rw [g1]
  refine Wi.len (Wi.lss (Wi.cond (fun hlt => ?_) fun hge => ?_))
  · have hix : i < xs.length := by simp only [decide_eq_true_eq] at hlt; omega
    have hiy : i < ys.length := by omega
    rw [← g1]
    obtain ⟨c1, o1, E1, k1, f1, q1, _, s1⟩ := Rd.slice_at (Rd.le _ h1 hle) hix
    obtain ⟨c2, o2, E2, k2, f2, q2, _, s2⟩ := Rd.slice_at (Rd.le _ h2 hle) hiy
    obtain ⟨u1, m1, r1⟩ := s1.one hr hix
    obtain ⟨u2, m2, r2⟩ := s2.one hr hiy
    rw [q1, q2]
    refine Wi.index hix (Wi.get s1.blk m1 (Wi.index hiy (Wi.get s2.blk m2 ?_)))
    refine hC _ _ _ _ _ _ _ _ _ r1 r2 (fun hne H2 l2 => ?_) fun he H2 l2 => ?_
    · exact hf (fun e => hne (by subst e; rfl)) H2 (hle.trans l2)
    · refine Wi.add (by unfold I64; omega) ⟨⟨i + 1, rfl, by omega, hle.trans l2, fun j hj g1 g2 => ?_⟩, ?_⟩
      · by_cases h : j < i
        · exact heq' j h g1 g2
        · have : j = i := by omega
          subst this
          exact he
      · simp only
        omega
  · have : i = xs.length := by simp only [decide_eq_false_iff_not] at hge; omega
    exact ht (List.ext_getElem hl fun j g1 g2 => heq' j (by omega) g1 g2) H1 hle

theorem CmpOK.int : CmpOK Rd.int (fun u1 u2 H A B => W.bin .neq u1 u2 H fun v H => W.cond v H A B) := by
  rintro H b1 b2 u1 u2 x y A B ⟨_, h1, _⟩ ⟨_, h2, _⟩ hA hB
  simp only [List.cons.injEq, and_true] at h1 h2
  subst h1 h2
  refine Wi.neq (Wi.cond (fun h => hA (by simpa using h) H (.refl _)) fun h => hB (by simpa using h) H (.refl _))

/-- A comparison that is a call. -/
def EqC {α : Type} (P : Program) (f : FuncId) (r : Rd α) : Prop :=
  ∀ H b1 b2 u1 u2 x y (Q : Post), r.rel H b1 [u1] x → r.rel H b2 [u2] y → (x = y → ∀ H', H.Le H' → Q (.bool true) H') → (x ≠ y → ∀ H', H.Le H' → Q (.bool false) H') → Runs P f #[u1, u2] H Q

theorem CmpOK.callQ {α : Type} {P : Program} {f : FuncId} {r : Rd α} (h : EqC P f r) :
    CmpOK r (fun u1 u2 H A B => W.callQ P (.func (.func f) #[] #[]) #[u1, u2] H fun v H => W.un .not v H fun v H => W.cond v H A B) := by
  intro H b1 b2 u1 u2 x y A B h1 h2 hA hB
  refine Wi.callQ (h _ _ _ _ _ _ _ _ h1 h2 (fun he H' l => ⟨l, Wi.not (Wi.fls (hB he H' l))⟩) fun hn H' l => ⟨l, Wi.not (Wi.tru (hA hn H' l))⟩)

theorem CmpOK.call {α : Type} {P : Program} {f : FuncId} {r : Rd α} (h : EqC P f r) :
    CmpOK r (fun u1 u2 H A B => W.call P (.func (.func f) #[] #[]) #[u1, u2] H fun v H => W.un .not v H fun v H => W.cond v H A B) := by
  intro H b1 b2 u1 u2 x y A B h1 h2 hA hB
  refine Wi.call (h _ _ _ _ _ _ _ _ h1 h2 (fun he H' l => Wi.not (Wi.fls (hB he H' l))) fun hn H' l => Wi.not (Wi.tru (hA hn H' l)))

end Go.Ab
