/- Contracts of the program's and the reference's functions that the law FnExactIsDesk reaches. No condition. -/
import Derived.Test.YtanpnljhopankaaDeskA
namespace Go.Proofs.Ytanpnljhopankaa
open Go.Ab

def inR (lo hi n : Int) : Bool := decide (lo ≤ n) && decide (n ≤ hi)

theorem fn51 {H : Heap} {Q : Post} {n lo hi : Int} (h : Q (.bool (inR lo hi n)) H) : Runs Try.prog 51 #[.int .i64 n, .int .i64 lo, .int .i64 hi] H Q := by
  refine f51.enter ?_
  unfold f51.w
  refine Wi.geq ?_
  unfold inR at h
  cases hb : decide (lo ≤ n) with
  | true =>
    rw [hb] at h
    exact Wi.gT (Wi.gT (Wi.gT (Wi.leq (Wi.pickT h))))
  | false =>
    rw [hb] at h
    exact Wi.gF (Wi.gF (Wi.gF (Wi.pickF h)))

theorem fn49 {H : Heap} {Q : Post} {n lo hi : Int} (h : Q (.bool (inR lo hi n)) H) : Runs Try.prog 49 #[.int .i64 n, .int .i64 lo, .int .i64 hi] H Q := by
  refine f49.enter ?_
  unfold f49.w
  refine Wi.geq ?_
  unfold inR at h
  cases hb : decide (lo ≤ n) with
  | true =>
    rw [hb] at h
    exact Wi.gT (Wi.gT (Wi.gT (Wi.leq (Wi.pickT h))))
  | false =>
    rw [hb] at h
    exact Wi.gF (Wi.gF (Wi.gF (Wi.pickF h)))

theorem fn64 {H : Heap} {Q : Post} {n m : Int} (hm : I64 (-m)) (h : Q (.bool (inR (-m) m n)) H) : Runs Try.prog 64 #[.int .i64 n, .int .i64 m] H Q :=
  f64.enter (Wi.neg hm (Wi.call (fn51 h)))

theorem index73 : IndexF Try.prog 73 Rd.int := IndexF.of rfl (n := 8) fun _ _ _ _ h => f73.enter h
theorem index72 : IndexF Try.prog 72 RS := IndexF.of rfl (n := 8) fun _ _ _ _ h => f72.enter h
theorem contains62 : ContainsF Try.prog 62 Rd.int := ContainsF.of index73 fun _ _ _ _ h => f62.enter h
theorem contains60 : ContainsF Try.prog 60 RS := ContainsF.of index72 fun _ _ _ _ h => f60.enter h

/-- All numbers are from -m to m. -/
def allUp (m : Int) (xs : List Int) : Bool := xs.all (inR (-m) m)

theorem fn43 {H : Heap} {Q : Post} {bs : List Nat} {v : Value} {xs : List Int} {m : Int} (hm : I64 (-m)) (hr : RS.rel H bs [v] xs) (h : ∀ H', H.Le H' → Q (.bool (allUp m xs)) H') : Runs Try.prog 43 #[v, .int .i64 m] H Q := by
  refine f43.enter ?_
  unfold f43.w
  refine Wi.box1 rfl fun H1 l1 n1 k1 => Wi.call (contains62 _ _ _ _ _ (fun x => !inR (-m) m x) _ (Rd.le _ hr l1) ?_ fun H2 l2 => ?_)
  · intro H' bs u x K l hr hK
    obtain ⟨_, hu, _⟩ := hr
    simp only [List.cons.injEq, and_true] at hu
    subst hu
    exact Wi.callV (f63.enter (Wi.get (l.at k1 (by omega)) rfl (Wi.call (fn64 hm (Wi.not (hK _ (.refl _)))))))
  · refine Wi.not ?_
    have e : (!xs.any fun x => !inR (-m) m x) = allUp m xs := by
      unfold allUp
      rw [← List.all_eq_not_any_not]
    rw [e]
    exact h H2 (l1.trans l2)

/-- A square of numbers, n rows of n. -/
def isSq (n : Nat) (m : List (List Int)) : Bool := decide (m.length = n) && m.all (fun r => decide (r.length = n))

theorem int_beq (a b : Nat) : ((a : Int) == (b : Int)) = decide (a = b) := by
  by_cases h : a = b
  · subst h; simp
  · have : ¬ (a : Int) = b := by omega
    simp [h, this]

theorem int_bne (a b : Nat) : ((a : Int) != (b : Int)) = !decide (a = b) := by
  rw [bne, int_beq]

theorem fn42 {H : Heap} {Q : Post} {bs : List Nat} {v : Value} {m : List (List Int)} {n : Nat} (hr : RSS.rel H bs [v] m) (h : ∀ H', H.Le H' → Q (.bool (isSq n m)) H') : Runs Try.prog 42 #[v, .int .i64 n] H Q := by
  refine f42.enter ?_
  unfold f42.w
  obtain ⟨p1, e1, g1⟩ := Rd.slice_val hr
  simp only [List.cons.injEq, and_true] at g1
  rw [g1]
  refine Wi.box1 rfl fun H1 l1 n1 k1 => Wi.len (Wi.get k1 rfl (Wi.eql ?_))
  rw [int_beq]
  unfold isSq at h
  cases hb : decide (m.length = n) with
  | false =>
    rw [hb] at h
    exact Wi.gF (Wi.gF (Wi.gF (Wi.gF (Wi.pickF (h H1 l1)))))
  | true =>
    rw [hb] at h
    rw [← g1]
    refine Wi.gT (Wi.gT (Wi.gT (Wi.call (contains60 _ _ _ _ _ (fun r => !decide (r.length = n)) _ (Rd.le _ hr l1) ?_ fun H2 l2 => Wi.gT (Wi.not (Wi.pickT ?_))))))
    · intro H' bs u x K l hr hK
      obtain ⟨p2, e2, g2⟩ := Rd.slice_val hr
      simp only [List.cons.injEq, and_true] at g2
      subst g2
      refine Wi.callV (f61.enter (Wi.len (Wi.get (l.at k1 (by omega)) rfl (Wi.neq ?_))))
      rw [int_bne]
      exact hK _ (.refl _)
    · have e : (!m.any fun r => !decide (r.length = n)) = m.all (fun r => decide (r.length = n)) := by rw [← List.all_eq_not_any_not]
      rw [e]
      have := h H2 (l1.trans l2)
      simpa using this

/-- A matrix: square, of 1 to 5 rows, numbers of at most 20. -/
def isMat (m : List (List Int)) : Bool := (inR 1 5 m.length && isSq m.length m) && m.all (allUp 20)

theorem fn59 {H : Heap} {Q : Post} {bs : List Nat} {v : Value} {m : List (List Int)} (hr : RSS.rel H bs [v] m) (h : ∀ H', H.Le H' → Q (.bool (isMat m)) H') : Runs Try.prog 59 #[v] H Q := by
  refine f59.enter ?_
  unfold f59.w
  obtain ⟨p1, e1, g1⟩ := Rd.slice_val hr
  simp only [List.cons.injEq, and_true] at g1
  rw [g1]
  refine Wi.len (Wi.call (fn51 ?_))
  rw [← g1]
  unfold isMat at h
  have tail : ∀ (b : Bool) (H1 : Heap), H.Le H1 → (∀ H', H1.Le H' → Q (.bool (b && m.all (allUp 20))) H') →
      W.guarded (.bool b) true (fun H k => k v H) H1 fun v8 H => W.guarded (.bool b) true (fun H k => W.call Try.prog (.func (.func 60) #[] #[]) #[v8, (.func (.func 71) #[] #[])] H k) H fun v9 H =>
        W.guarded (.bool b) true (fun H k => W.un .not v9 H k) H fun v10 H => W.pick (.bool b) v10 (.bool false) H fun v11 H => Q v11 H := by
    intro b H1 l1 h
    cases b with
    | false => exact Wi.gF (Wi.gF (Wi.gF (Wi.pickF (h H1 (.refl _)))))
    | true =>
      refine Wi.gT (Wi.gT (Wi.call (contains60 _ _ _ _ _ (fun r => !allUp 20 r) _ (Rd.le _ hr l1) ?_ fun H2 l2 => Wi.gT (Wi.not (Wi.pickT ?_)))))
      · intro H' bs u x K l hr hK
        exact Wi.call (f71.enter (Wi.call (fn43 (by unfold I64; omega) hr fun H2 l2 => Wi.not (hK H2 l2))))
      · have e : (!m.any fun r => !allUp 20 r) = m.all (allUp 20) := by rw [← List.all_eq_not_any_not]
        rw [e]
        exact h H2 l2
  cases hb : inR 1 5 m.length with
  | false =>
    rw [hb] at h
    exact Wi.gF (Wi.gF (Wi.gF (Wi.gF (Wi.pickF (tail false H (.refl _) h)))))
  | true =>
    rw [hb, Bool.true_and] at h
    refine Wi.gT (Wi.gT (Wi.gT ?_))
    rw [g1]
    refine Wi.len ?_
    rw [← g1]
    refine Wi.gT (Wi.call (fn42 hr fun H1 l1 => Wi.pickT (tail _ H1 l1 fun H2 l2 => h H2 (l1.trans l2))))

abbrev Prob := List (List Int) × List Int

/-- A problem. -/
def isProb (p : Prob) : Bool := (isMat p.1 && decide (p.2.length = p.1.length)) && allUp 100 p.2

theorem prob_cells {H : Heap} {bs : List Nat} {cs : List Value} {p : Prob} (h : RProblem.rel H bs cs p) : ∃ u1 u2 b1 b2, cs = [u1, u2] ∧ bs = b1 ++ b2 ∧ RSS.rel H b1 [u1] p.1 ∧ RS.rel H b2 [u2] p.2 := by
  obtain ⟨b1, b2, c1, c2, hb, hc, h1, h2⟩ := h
  obtain ⟨u1, rfl⟩ := List.length_eq_one_iff.1 (RSS.len h1)
  obtain ⟨u2, rfl⟩ := List.length_eq_one_iff.1 (RS.len h2)
  exact ⟨u1, u2, b1, b2, hc, hb, h1, h2⟩

theorem fn36 {H : Heap} {Q : Post} {bs : List Nat} {cs : List Value} {p : Prob} (hr : RProblem.rel H bs cs p) (h : ∀ H', H.Le H' → Q (.bool (isProb p)) H') : Runs Try.prog 36 #[.agg cs.toArray] H Q := by
  obtain ⟨u1, u2, b1, b2, rfl, _, hr1, hr2⟩ := prob_cells hr
  refine f36.enter ?_
  unfold f36.w
  obtain ⟨p1, e1, g1⟩ := Rd.slice_val hr1
  obtain ⟨p2, e2, g2⟩ := Rd.slice_val hr2
  simp only [List.cons.injEq, and_true] at g1 g2
  refine Wi.box fun H1 l1 n1 k1 => Wi.fieldAddr0 (Wi.get k1 rfl (Wi.call (fn59 (Rd.le _ hr1 l1) fun H2 l2 => ?_)))
  have k2 := l2.at k1 (by omega)
  unfold isProb at h
  have l12 := l1.trans l2
  cases hb : isMat p.1 with
  | false =>
    rw [hb] at h
    exact Wi.gF (Wi.gF (Wi.gF (Wi.gF (Wi.gF (Wi.gF (Wi.gF (Wi.pickF (Wi.gF (Wi.gF (Wi.gF (Wi.pickF (h H2 l12))))))))))))
  | true =>
    rw [hb, Bool.true_and] at h
    refine Wi.gT (Wi.fieldAddr0 (Wi.gT (Wi.get k2 rfl (Wi.gT ?_))))
    rw [g2]
    refine Wi.len (Wi.gT (Wi.fieldAddr0 (Wi.gT (Wi.get k2 rfl (Wi.gT ?_)))))
    rw [g1]
    refine Wi.len (Wi.gT (Wi.eql (Wi.pickT ?_)))
    rw [int_beq]
    cases hl : decide (p.2.length = p.1.length) with
    | false =>
      rw [hl] at h
      exact Wi.gF (Wi.gF (Wi.gF (Wi.pickF (h H2 l12))))
    | true =>
      rw [hl, Bool.true_and] at h
      exact Wi.gT (Wi.fieldAddr0 (Wi.gT (Wi.get k2 rfl (Wi.gT (Wi.call (fn43 (by unfold I64; omega) (Rd.le _ hr2 l12) fun H3 l3 => Wi.pickT (h H3 (l12.trans l3))))))))

theorem Wi.shl1 {H : Heap} {k : Post} {κ : IntKind} {n : Nat} (hn : n ≤ 60) (h : k (.int .i64 (2 ^ n)) H) : W.bin .shl (.int .i64 1) (.int κ n) H k := by
  have h1 : (2 : Int) ^ n ≤ 2 ^ 60 := by
    have := Nat.pow_le_pow_right (n := 2) (by omega) hn
    exact_mod_cast this
  have h0 : (0 : Int) < 2 ^ n := Int.pow_pos (by omega)
  have hw : IntKind.i64.wrap (2 ^ n) = 2 ^ n := wrap_id (by unfold I64; omega)
  have hm : min n IntKind.i64.bits = n := by simp [IntKind.bits]; omega
  have hnn : ¬ ((n : Int) < 0) := by omega
  simpa [W.bin, binEval, hm, hw, hnn] using h

theorem i64_pow {n : Nat} (hn : n ≤ 60) : I64 (2 ^ n - 1) := by
  have h1 : (2 : Int) ^ n ≤ 2 ^ 60 := by
    have := Nat.pow_le_pow_right (n := 2) (by omega) hn
    exact_mod_cast this
  have h0 : (0 : Int) < 2 ^ n := Int.pow_pos (by omega)
  unfold I64
  omega

/-- A set of a problem of size n. -/
def isSet (n : Nat) (s : Int) : Bool := inR 0 (2 ^ n - 1) s

theorem fn37 {H : Heap} {Q : Post} {s : Int} {n : Nat} (hn : n ≤ 60) (h : Q (.bool (isSet n s)) H) : Runs Try.prog 37 #[.int .i64 s, .int .i64 n] H Q :=
  f37.enter (Wi.shl1 hn (Wi.sub (i64_pow hn) (Wi.call (fn51 h))))

abbrev Desk := Prob × Int

theorem desk_cells {H : Heap} {bs : List Nat} {cs : List Value} {d : Desk} (h : RDesk.rel H bs cs d) : ∃ u1 u2 b1, cs = [u1, u2, .int .i64 d.2] ∧ RProblem.rel H b1 [u1, u2] d.1 ∧ I64 d.2 := by
  obtain ⟨b1, b2, c1, c2, hb, hc, h1, ⟨_, h2, h3⟩⟩ := h
  obtain ⟨u1, u2, _, _, rfl, _, _⟩ := prob_cells h1
  subst h2
  exact ⟨u1, u2, b1, hc, h1, h3⟩

theorem isProb_len {p : Prob} (h : isProb p = true) : p.2.length ≤ 5 ∧ p.2.length = p.1.length := by
  simp only [isProb, isMat, inR, Bool.and_eq_true, decide_eq_true_eq] at h
  omega

/-- A desk. -/
def isDesk (d : Desk) : Bool := isProb d.1 && isSet d.1.2.length d.2

theorem fn16 {H : Heap} {Q : Post} {bs : List Nat} {cs : List Value} {d : Desk} (hr : RDesk.rel H bs cs d) (h : ∀ H', H.Le H' → Q (.bool (isDesk d)) H') : Runs Try.prog 16 #[.agg cs.toArray] H Q := by
  obtain ⟨u1, u2, b1, rfl, hp, hi⟩ := desk_cells hr
  obtain ⟨_, _, _, _, hcs, _, hr1, hr2⟩ := prob_cells hp
  simp only [List.cons.injEq, and_true] at hcs
  obtain ⟨rfl, rfl⟩ := hcs
  obtain ⟨p2, e2, g2⟩ := Rd.slice_val hr2
  simp only [List.cons.injEq, and_true] at g2
  refine f16.enter ?_
  unfold f16.w
  refine Wi.box fun H1 l1 n1 k1 => Wi.fieldAddr0 (Wi.getN k1 (by simp) (Wi.call (fn36 (Rd.le _ hp l1) fun H2 l2 => ?_)))
  have k2 := l2.at k1 (by omega)
  have l12 := l1.trans l2
  unfold isDesk at h
  cases hb : isProb d.1 with
  | false =>
    rw [hb] at h
    exact Wi.gF (Wi.gF (Wi.gF (Wi.gF (Wi.gF (Wi.gF (Wi.gF (Wi.pickF (h H2 l12))))))))
  | true =>
    rw [hb, Bool.true_and] at h
    refine Wi.gT (Wi.fieldAddr0 (Wi.gT (Wi.get k2 rfl (Wi.gT (Wi.fieldAddr0 (Wi.gT (Wi.fieldAddr (Wi.gT (Wi.get k2 rfl (Wi.gT ?_))))))))))
    rw [g2]
    exact Wi.len (Wi.gT (Wi.call (fn37 (by have := isProb_len hb; omega) (Wi.pickT (h H2 l12)))))

end Go.Proofs.Ytanpnljhopankaa
