/- Lists of fractions in order: a strict weak order, and the program's comparison. No condition. -/
import Derived.Test.YtdmgomeogedjgaaGreatSO0
import Derived.Test.YtdmgomeogedjgaaGreatGZB
import Derived.Test.YtdmgomeogedjgaaGreatZabOne
namespace Go.Proofs.YtdmgomeogedjgaaGreat
open Go.Ab

def dF (a b : Frac) : Int := sgI (a.1 * b.2 - b.1 * a.2)
def cmpL : List Frac → List Frac → Int
  | a :: ta, b :: bs => if dF a b ≠ 0 then dF a b else cmpL ta bs
  | _, _ => 0

/-- Fractions in lowest terms within the limits, ta many ta there are numbers. -/
def LowL (m : Nat) (Z : List Frac) : Prop := Z.length = m ∧ ∀ a ∈ Z, isFr 1000000000 a = true

theorem LowL.tl {m : Nat} {a : Frac} {ta : List Frac} (h : LowL m (a :: ta)) : LowL (m - 1) ta := ⟨by have := h.1; simp at this; omega, fun x hx => h.2 x (List.mem_cons_of_mem _ hx)⟩
theorem LowL.hd {m : Nat} {a : Frac} {ta : List Frac} (h : LowL m (a :: ta)) : 0 < a.2 ∧ Int.gcd a.1 a.2 = 1 := by
  obtain ⟨h1, _, h3⟩ := isFr_iff.1 (h.2 a List.mem_cons_self)
  exact ⟨by omega, h3⟩

theorem sg_neg (x : Int) : sgI (-x) = -sgI x := by
  unfold sgI
  split <;> split <;> (try split) <;> (try split) <;> omega
theorem sg_lt {x : Int} : sgI x < 0 ↔ x < 0 := by
  unfold sgI
  split <;> (try split) <;> omega
theorem sg_zero {x : Int} : sgI x = 0 ↔ x = 0 := by
  unfold sgI
  split <;> (try split) <;> omega

theorem dF_neg (a b : Frac) : dF b a = -dF a b := by
  unfold dF
  rw [← sg_neg]
  congr 1
  omega

theorem cmpL_neg : ∀ {A B : List Frac}, A.length = B.length → cmpL B A = -cmpL A B
  | [], [], _ => rfl
  | [], _ :: _, h => by simp at h
  | _ :: _, [], h => by simp at h
  | a :: ta, b :: bs, h => by
    simp only [cmpL]
    rw [dF_neg a b]
    by_cases e : dF a b = 0
    · rw [if_neg (by omega), if_neg (by omega)]
      exact cmpL_neg (by simpa using h)
    · rw [if_pos (by omega), if_pos e]

theorem cmpL_eq : ∀ {m : Nat} {A B : List Frac}, LowL m A → LowL m B → cmpL A B = 0 → A = B
  | _, [], [], _, _, _ => rfl
  | _, [], _ :: _, h1, h2, _ => by have e1 := h1.1; have e2 := h2.1; simp at e1 e2; omega
  | _, _ :: _, [], h1, h2, _ => by have e1 := h1.1; have e2 := h2.1; simp at e1 e2; omega
  | m, a :: ta, b :: bs, h1, h2, h => by
    simp only [cmpL] at h
    by_cases e : dF a b = 0
    · rw [if_neg (by omega)] at h
      have := sg_zero.1 e
      have ea := (frac_cross h1.hd.1 h2.hd.1 h1.hd.2 h2.hd.2).1 (by omega)
      rw [ea, cmpL_eq h1.tl h2.tl h]
    · rw [if_pos e] at h
      exact absurd h e

theorem cmpL_self : ∀ A : List Frac, cmpL A A = 0
  | [] => rfl
  | a :: ta => by
    simp only [cmpL]
    rw [show dF a a = 0 by unfold dF; rw [Int.sub_self]; rfl, if_neg (by omega)]
    exact cmpL_self ta

theorem dF_tr {a b c : Frac} (pa : 0 < a.2) (pb : 0 < b.2) (pc : 0 < c.2) (h1 : 0 ≤ dF b a) (h2 : 0 ≤ dF c b) : 0 ≤ dF c a ∧ (dF c a = 0 → dF b a = 0 ∧ dF c b = 0) := by
  have g1 : a.1 * b.2 ≤ b.1 * a.2 := Int.not_lt.1 fun q => by
    have := sg_lt.2 (show b.1 * a.2 - a.1 * b.2 < 0 by omega)
    unfold dF at h1
    omega
  have g2 : b.1 * c.2 ≤ c.1 * b.2 := Int.not_lt.1 fun q => by
    have := sg_lt.2 (show c.1 * b.2 - b.1 * c.2 < 0 by omega)
    unfold dF at h2
    omega
  have k1 := Int.mul_le_mul_of_nonneg_right g1 (show (0 : Int) ≤ c.2 by omega)
  have k2 := Int.mul_le_mul_of_nonneg_right g2 (show (0 : Int) ≤ a.2 by omega)
  have e1 : a.1 * b.2 * c.2 = a.1 * c.2 * b.2 := by ac_rfl
  have e2 : b.1 * a.2 * c.2 = b.1 * c.2 * a.2 := by ac_rfl
  have e3 : c.1 * b.2 * a.2 = c.1 * a.2 * b.2 := by ac_rfl
  have g3 : a.1 * c.2 ≤ c.1 * a.2 := Int.le_of_mul_le_mul_right (by omega) pb
  refine ⟨Int.not_lt.1 fun q => ?_, fun q => ?_⟩
  · have := sg_lt.1 q
    omega
  · have q := sg_zero.1 q
    have e4 : c.1 * a.2 * b.2 = a.1 * c.2 * b.2 := by rw [show c.1 * a.2 = a.1 * c.2 by omega]
    have q1 : b.1 * a.2 * c.2 = a.1 * b.2 * c.2 := by omega
    have q2 : c.1 * b.2 * a.2 = b.1 * c.2 * a.2 := by omega
    have r1 := Int.eq_of_mul_eq_mul_right (show c.2 ≠ 0 by omega) q1
    have r2 := Int.eq_of_mul_eq_mul_right (show a.2 ≠ 0 by omega) q2
    exact ⟨sg_zero.2 (by omega), sg_zero.2 (by omega)⟩

theorem cmpL_tr : ∀ {m : Nat} {A B C : List Frac}, LowL m A → LowL m B → LowL m C → 0 ≤ cmpL B A → 0 ≤ cmpL C B → 0 ≤ cmpL C A
  | m, [], B, C, h1, h2, h3, _, _ => by
    have e1 := h1.1
    have e3 := h3.1
    have : C = [] := List.length_eq_zero_iff.1 (by simp at e1; omega)
    subst this
    exact Int.le_refl _
  | m, a :: ta, [], C, h1, h2, _, _, _ => by have e1 := h1.1; have e2 := h2.1; simp at e1 e2; omega
  | m, a :: ta, b :: bs, [], h1, _, h3, _, _ => by have e1 := h1.1; have e2 := h3.1; simp at e1 e2; omega
  | m, a :: ta, b :: bs, c :: cs, h1, h2, h3, g1, g2 => by
    simp only [cmpL] at g1 g2 ⊢
    have p1 : 0 ≤ dF b a := by
      by_cases e : dF b a = 0
      · omega
      · rw [if_pos e] at g1; exact g1
    have p2 : 0 ≤ dF c b := by
      by_cases e : dF c b = 0
      · omega
      · rw [if_pos e] at g2; exact g2
    obtain ⟨t1, t2⟩ := dF_tr h1.hd.1 h2.hd.1 h3.hd.1 p1 p2
    by_cases e : dF c a = 0
    · obtain ⟨z1, z2⟩ := t2 e
      rw [if_neg (by omega)] at g1 g2 ⊢
      exact cmpL_tr h1.tl h2.tl h3.tl g1 g2
    · rw [if_pos e]
      exact t1

/-- What is sorted: heads with lists. -/
abbrev El (m : Nat) : Type := {q : Value × List Frac // LowL m q.2}
def ltE {m : Nat} (x y : El m) : Bool := decide (cmpL x.1.2 y.1.2 < 0)

theorem ltE_swo (m : Nat) : SWO (ltE (m := m)) where
  asym := fun {x y} h => by
    have h := of_decide_eq_true h
    have := cmpL_neg (A := x.1.2) (B := y.1.2) (by rw [x.2.1, y.2.1])
    exact decide_eq_false (by omega)
  tr := fun {x y z} h1 h2 => by
    have h1 := of_decide_eq_false h1
    have h2 := of_decide_eq_false h2
    have := cmpL_tr x.2 y.2 z.2 (by omega) (by omega)
    exact decide_eq_false (by omega)

theorem fnQ54 {H0 : Heap} {Q : Post} {va vb : Value} {A B : List Frac} {m : Nat} (hA : LowL m A) (hB : LowL m B) (ha : Has RFS H0 [va] A) (hb : Has RFS H0 [vb] B) (hQ : ∀ H', H0.Le H' → Q (.int .i64 (cmpL A B)) H') :
    Runs Tryz.prog 54 #[va, vb, .func (.func 55) #[] #[]] H0 Q := by
  have hs := ha.small
  have lA := hA.1
  have lB := hB.1
  have h := ((Loc.start H0).lent ha).lent hb
  refine f54.enter ?_
  unfold f54.w
  refine Wl.len (v := va) (xs := A) h ?_
  refine W.for_rule A.length (fun i st H => st = (.int .i64 (i : Nat), ()) ∧ Ab.Loc H0 [.lent RFS [vb] B, .lent RFS [va] A] H ∧ cmpL A B = cmpL (A.drop i) (B.drop i)) ⟨rfl, h, by simp⟩ ?_
  rintro i st H J hi ⟨rfl, h, hc⟩ hJ
  unfold f54.l1
  refine Wi.lssC (fun hlt => Wi.tru ?_) fun hge => Wi.fls ?_
  · have hia : i < A.length := by omega
    have hib : i < B.length := by omega
    obtain ⟨g1, g2, _⟩ := isFr_iff.1 (hA.2 _ (List.getElem_mem hia))
    obtain ⟨g3, g4, _⟩ := isFr_iff.1 (hB.2 _ (List.getElem_mem hib))
    have est : cmpL (A.drop i) (B.drop i) = if dF A[i] B[i] ≠ 0 then dF A[i] B[i] else cmpL (A.drop (i + 1)) (B.drop (i + 1)) := by
      rw [List.drop_eq_getElem_cons hia, List.drop_eq_getElem_cons hib]
      rfl
    refine Wl.atFr (v := va) (xs := A) (i := i) h hia fun _ _ => Wl.new h fun H b5 h => Wl.putA h rfl rfl rfl fun H h => Wl.len (v := vb) (xs := B) h (Wi.geqC (fun g => absurd g (by omega)) fun _ => Wi.fls ?_)
    refine Wl.atFr (v := vb) (xs := B) (i := i) h hib fun _ _ => Wl.new h fun H b10 h => Wl.putA h rfl rfl rfl fun H h => Wl.getA (b := b5) h rfl (Wl.getA (b := b10) h rfl (Wi.call (fn55 (mulA (A := 1000000000) (B := 1000000000) (show (A[i]).1.natAbs ≤ 1000000000 by omega) (show (B[i]).2.natAbs ≤ 1000000000 by omega)) (mulA (A := 1000000000) (B := 1000000000) (show (B[i]).1.natAbs ≤ 1000000000 by omega) (show (A[i]).2.natAbs ≤ 1000000000 by omega)) (by decide) fun H l => ?_)))
    have h := (h.to l).tl.tl
    refine Wi.neqC (fun g => Wi.tru ?_) fun g => Wi.fls (Wi.add (by unfold I64; omega) (hJ _ _ hia ⟨rfl, h, ?_⟩))
    · have e : cmpL A B = sgI (A[i].1 * B[i].2 - B[i].1 * A[i].2) := by
        rw [hc, est, if_pos (show dF A[i] B[i] ≠ 0 from g)]
        rfl
      have := hQ _ h.le
      rw [e] at this
      exact this
    · rw [hc, est, if_neg (by intro q; exact q (by unfold dF; omega))]
  · have hz : cmpL A B = 0 := by
      rw [hc, List.drop_of_length_le (show A.length ≤ i by omega), List.drop_of_length_le (show B.length ≤ i by omega)]
      rfl
    refine Wl.len (v := va) (xs := A) h (Wl.len (v := vb) (xs := B) h (Wi.lssC (fun g => absurd g (by omega)) fun _ => Wi.fls ?_))
    have := hQ _ h.le
    rw [hz] at this
    exact this

theorem fnQ24 {H0 : Heap} {Q : Post} {va vb : Value} {A B : List Frac} {m : Nat} (hA : LowL m A) (hB : LowL m B) (ha : Has RFS H0 [va] A) (hb : Has RFS H0 [vb] B) (hQ : ∀ H', H0.Le H' → Q (.int .i64 (cmpL A B)) H') : Runs Tryz.prog 24 #[va, vb] H0 Q :=
  f24.enter (Wi.call (fnQ54 hA hB ha hb hQ))

end Go.Proofs.YtdmgomeogedjgaaGreat
