/- The next breakpoint of a way, the program's and the reference's. No condition. -/
import Derived.Test.YtdmgomeogedjgaaGreatGVV
import Derived.Test.YtdmgomeogedjgaaGreatGAB
import Derived.Test.YtdmgomeogedjgaaGreatGSR
import Derived.Test.YtdmgomeogedjgaaGreatZabG9
import Derived.Test.YtdmgomeogedjgaaGreatZabOne
namespace Go.Proofs.YtdmgomeogedjgaaGreat
open Go.Ab

/- (loop.example/g01343/impl.Frac).compare -/
def f55.w (Q : Post) (a_0 : Value) (b_1 : Value) (H : Heap) : Prop :=
  W.box a_0 67 H fun v1 H =>
  W.box b_1 67 H fun v2 H =>
  W.fieldAddr 0 v1 H fun v3 H =>
  W.get v3 H fun v4 H =>
  W.fieldAddr 1 v2 H fun v5 H =>
  W.get v5 H fun v6 H =>
  W.bin .mul v4 v6 H fun v7 H =>
  W.fieldAddr 0 v2 H fun v8 H =>
  W.get v8 H fun v9 H =>
  W.fieldAddr 1 v1 H fun v10 H =>
  W.get v10 H fun v11 H =>
  W.bin .mul v9 v11 H fun v12 H =>
  W.bin .sub v7 v12 H fun v13 H =>
  W.call Tryz.prog (.func (.func 108) #[] #[]) #[v13] H fun v14 H =>
  Q v14 H
theorem f55.enter {Q : Post} {a_0 : Value} {b_1 : Value} {H : Heap} (h : f55.w Q a_0 b_1 H) : Runs Tryz.prog 55 #[a_0, b_1] H Q :=
  fn_enter (ann := []) (by kernel_rfl) Tryz.func55 rfl (by kernel_rfl) h (by kernel_rfl)


theorem fn55 {H0 : Heap} {Q : Post} {a b : Frac} {A B : Nat} (h1 : (a.1 * b.2).natAbs ≤ A) (h2 : (b.1 * a.2).natAbs ≤ B) (h3 : A + B < 9223372036854775808) (hQ : ∀ H', H0.Le H' → Q (.int .i64 (sgI (a.1 * b.2 - b.1 * a.2))) H') : Runs Tryz.prog 55 #[.agg (frC a).toArray, .agg (frC b).toArray] H0 Q := by
  refine f55.enter ?_
  unfold f55.w
  refine Wl.box (Loc.start H0) fun H b1 h => Wl.box h fun H b2 h => Wi.fieldAddr0 (Wl.get h rfl (Wi.fieldAddr (Wl.get h rfl (Wi.mul (i64A h1 (by omega)) (Wi.fieldAddr0 (Wl.get h rfl (Wi.fieldAddr (Wl.get h rfl (Wi.mul (i64A h2 (by omega)) (Wi.sub (i64A (subA h1 h2) (by omega)) (Wi.call (fn108 ?_))))))))))))
  exact hQ _ h.le

/-- One fraction is less than another. -/
def fLt (x y : Frac) : Bool := decide (x.1 * y.2 < y.1 * x.2)

/-- Where a number that falls becomes 0. -/
def canF (a b : List Int) (i : Nat) : Frac := frac (a.getD i 0) (-(b.getD i 0))
def canOk (a b : List Int) (before : Frac) (i : Nat) : Bool := decide (b.getD i 0 < 0) && fLt before (canF a b i)

/-- The next breakpoint among the first ones, and which numbers become 0 there. -/
def bkTo (a b : List Int) (before : Frac) : Nat → Frac × List Int
  | 0 => ((0, 1), [])
  | i + 1 =>
    if canOk a b before i = true then
      (if (bkTo a b before i).2 = [] ∨ fLt (canF a b i) (bkTo a b before i).1 = true then (canF a b i, [(i : Int)])
      else if canF a b i = (bkTo a b before i).1 then ((bkTo a b before i).1, (bkTo a b before i).2 ++ [(i : Int)]) else bkTo a b before i)
    else bkTo a b before i

/-- A fraction in lowest terms that is not too large. -/
def Low (t : Frac) : Prop := (1 ≤ t.2 ∧ t.2 ≤ 768000000) ∧ t.1.natAbs ≤ 768000000 ∧ Int.gcd t.1 t.2 = 1

theorem low_fr {t : Frac} (h : Low t) : isFr 1000000000 t = true := by
  obtain ⟨h1, h2, h3⟩ := h
  exact isFr_iff.2 ⟨⟨h1.1, by omega⟩, ⟨by omega, by omega⟩, h3⟩

theorem canF_low {a b : List Int} (ba : ∀ e ∈ a, e.natAbs ≤ 768000000) (bb : ∀ e ∈ b, e.natAbs ≤ 768000000) {i : Nat} (h : b.getD i 0 < 0) : Low (canF a b i) := by
  have g : ∀ (l : List Int), (∀ e ∈ l, e.natAbs ≤ 768000000) → (l.getD i 0).natAbs ≤ 768000000 := fun l hl => by
    rw [List.getD_eq_getElem?_getD]
    cases e : l[i]? with
    | none => simp
    | some x => exact hl x (List.mem_of_getElem? e)
  have h1 := frac_abs (x := a.getD i 0) (d := -(b.getD i 0))
  have h2 := frac_pos (n := a.getD i 0) (d := -(b.getD i 0)) (by omega)
  have h3 := frac_gcd (n := a.getD i 0) (d := -(b.getD i 0)) (by omega)
  have := g a ba
  have := g b bb
  unfold Low canF
  exact ⟨⟨by omega, by omega⟩, by omega, h3⟩

theorem bk_low {a b : List Int} {before : Frac} (ba : ∀ e ∈ a, e.natAbs ≤ 768000000) (bb : ∀ e ∈ b, e.natAbs ≤ 768000000) : ∀ i, Low (bkTo a b before i).1
  | 0 => ⟨⟨by simp [bkTo], by simp [bkTo]⟩, by simp [bkTo], by simp [bkTo]⟩
  | i + 1 => by
    unfold bkTo
    split
    · rename_i h
      unfold canOk at h
      rw [Bool.and_eq_true] at h
      have hc := canF_low ba bb (of_decide_eq_true h.1)
      split
      · exact hc
      · split
        · exact bk_low ba bb i
        · exact bk_low ba bb i
    · exact bk_low ba bb i

theorem bk_len {a b : List Int} {before : Frac} : ∀ i, (bkTo a b before i).2.length ≤ i
  | 0 => by simp [bkTo]
  | i + 1 => by
    have := bk_len (a := a) (b := b) (before := before) i
    unfold bkTo
    split
    · split
      · simp
      · split
        · simp; omega
        · omega
    · omega

theorem bk_mem {a b : List Int} {before : Frac} : ∀ i, ∀ x ∈ (bkTo a b before i).2, 0 ≤ x ∧ x < (i : Int)
  | 0, x, h => by simp [bkTo] at h
  | i + 1, x, h => by
    have ih := bk_mem (a := a) (b := b) (before := before) i
    unfold bkTo at h
    split at h
    · split at h
      · simp only [List.mem_singleton] at h
        omega
      · split at h
        · simp only [List.mem_append, List.mem_singleton] at h
          rcases h with h | h
          · have := ih x h; omega
          · omega
        · have := ih x h; omega
    · have := ih x h; omega

theorem lowMul {x y : Frac} {A : Nat} (hx : x.1.natAbs ≤ A ∧ 1 ≤ x.2 ∧ x.2 ≤ (A : Int)) (hy : Low y) : (x.1 * y.2).natAbs ≤ A * 768000000 ∧ (y.1 * x.2).natAbs ≤ 768000000 * A :=
  ⟨mulA hx.1 (by have := hy.1; omega), mulA hy.2.1 (by omega)⟩

theorem low_ok {y : Frac} (h : Low y) : y.1.natAbs ≤ 768000000 ∧ 1 ≤ y.2 ∧ y.2 ≤ ((768000000 : Nat) : Int) := ⟨h.2.1, h.1.1, h.1.2⟩

theorem sgI_pos' {x : Int} : sgI x ≤ 0 ↔ x ≤ 0 := by
  unfold sgI
  split
  · omega
  · split <;> omega
theorem sgI_lt {x : Int} : sgI x < 0 ↔ x < 0 := by
  unfold sgI
  split
  · omega
  · split <;> omega
theorem sgI_zero {x : Int} : sgI x = 0 ↔ x = 0 := by
  unfold sgI
  split
  · omega
  · split <;> omega

theorem i64_low {t : Frac} (h : Low t) : I64 t.1 ∧ I64 t.2 := by
  obtain ⟨h1, h2, _⟩ := h
  unfold I64
  omega




end Go.Proofs.YtdmgomeogedjgaaGreat
