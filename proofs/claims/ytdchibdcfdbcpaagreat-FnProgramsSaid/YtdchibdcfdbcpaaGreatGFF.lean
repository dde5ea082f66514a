/- The contract of the comparison of two fractions. No condition. -/
import Derived.Test.YtdchibdcfdbcpaaGreatGCC
import Derived.Test.YtdchibdcfdbcpaaGreatGAA
import Derived.Test.YtdchibdcfdbcpaaGreatZabG8
import Derived.Test.YtdchibdcfdbcpaaGreatGQQ
namespace Go.Proofs.YtdchibdcfdbcpaaGreat
open Go.Ab

/- (loop.example/g01343/impl.Frac).compare -/
def f91.w (Q : Post) (a_0 : Value) (b_1 : Value) (H : Heap) : Prop :=
  W.box a_0 34 H fun v1 H =>
  W.box b_1 34 H fun v2 H =>
  W.fieldAddr 0 v1 H fun v3 H =>
  W.get v3 H fun v4 H =>
  W.fieldAddr 1 v2 H fun v5 H =>
  W.get v5 H fun v6 H =>
  W.bin .mul v4 v6 H fun v7 H =>
  W.fieldAddr 0 v2 H fun v8 H =>
  W.get v8 H fun v9 H =>
  W.fieldAddr 1 v1 H fun v10 H =>
  W.get v10 H fun v11 H =>
  W.bin .mul v9 v11 H fun v12 H =>
  W.bin .sub v7 v12 H fun v13 H =>
  W.call Tryz.prog (.func (.func 122) #[] #[]) #[v13] H fun v14 H =>
  Q v14 H
theorem f91.enter {Q : Post} {a_0 : Value} {b_1 : Value} {H : Heap} (h : f91.w Q a_0 b_1 H) : Runs Tryz.prog 91 #[a_0, b_1] H Q :=
  fn_enter (ann := []) (by kernel_rfl) Tryz.func91 rfl (by kernel_rfl) h (by kernel_rfl)


theorem fn91 {H0 : Heap} {Q : Post} {a b : Frac} {A B : Nat} (h1 : (a.1 * b.2).natAbs ≤ A) (h2 : (b.1 * a.2).natAbs ≤ B) (h3 : A + B < 9223372036854775808) (hQ : ∀ H', H0.Le H' → Q (.int .i64 (sgI (a.1 * b.2 - b.1 * a.2))) H') : Runs Tryz.prog 91 #[.agg (frC a).toArray, .agg (frC b).toArray] H0 Q := by
  refine f91.enter ?_
  unfold f91.w
  refine Wl.box (Loc.start H0) fun H b1 h => Wl.box h fun H b2 h => Wi.fieldAddr0 (Wl.get h rfl (Wi.fieldAddr (Wl.get h rfl (Wi.mul (i64A h1 (by omega)) (Wi.fieldAddr0 (Wl.get h rfl (Wi.fieldAddr (Wl.get h rfl (Wi.mul (i64A h2 (by omega)) (Wi.sub (i64A (subA h1 h2) (by omega)) (Wi.call (fn122 ?_))))))))))))
  exact hQ _ h.le

end Go.Proofs.YtdchibdcfdbcpaaGreat
/-! Contracts of CompareFracs and MultiplyFracs. No condition. -/
namespace Go.Proofs.YtdchibdcfdbcpaaGreat
open Go.Ab

/- loop.example/g01343/impl.CompareFracs -/
def f22.w (Q : Post) (a_0 : Value) (b_1 : Value) (H : Heap) : Prop :=
  W.box a_0 34 H fun v1 H =>
  W.box b_1 34 H fun v2 H =>
  W.getN 2 v1 H fun v3 H =>
  W.getN 2 v2 H fun v4 H =>
  W.lit 2 [(.int .i64 0), (.int .i64 0)] 34 [(0, 2, v3), (2, 2, v4)] H fun v5 H =>
  W.call Tryz.prog (.func (.func 80) #[] #[]) #[v5] H fun v6 H =>
  W.un .not v6 H fun v7 H =>
  W.cond v7 H
  (fun H => Q (.tuple #[(.int .i64 0), (.int .i64 1)]) H)
  (fun H => W.getN 2 v1 H fun v8 H =>
   W.getN 2 v2 H fun v9 H =>
   W.call Tryz.prog (.func (.func 91) #[] #[]) #[v8, v9] H fun v10 H =>
   Q (.tuple #[v10, (.int .i64 0)]) H)
theorem f22.enter {Q : Post} {a_0 : Value} {b_1 : Value} {H : Heap} (h : f22.w Q a_0 b_1 H) : Runs Tryz.prog 22 #[a_0, b_1] H Q :=
  fn_enter (ann := []) (by kernel_rfl) Tryz.func22 rfl (by kernel_rfl) h (by kernel_rfl)

/- loop.example/g01343/impl.MultiplyFracs -/
theorem Wl.litFr2 {H0 H : Heap} {L : List (Atom H0.next)} {K : Post} {a b : Frac} {ty : TypeId} (ha : I64 a.1 ∧ I64 a.2) (hb : I64 b.1 ∧ I64 b.2) (h : Ab.Loc H0 L H) (k : ∀ H' v, Ab.Loc H0 (.data RFS [v] [a, b] :: L) H' → K v H') :
    W.lit 2 [.int .i64 0, .int .i64 0] ty [(0, 2, .agg (frC a).toArray), (2, 2, .agg (frC b).toArray)] H K := by
  refine Wi.lit (cells := frC a ++ frC b) rfl fun H1 l1 n1 k1 => k H1 _ (h.cons l1 (bs := [H.next]) (grow_data (r := RFrac) (ty := ty) (.inr ⟨H.next, 4, _, fun _ => [], rfl, rfl, by simp, by simp, ?_, ⟨by omega, k1, by simp, by simp, by show 0 + 2 * 2 ≤ 4; decide, fun i hi => ?_⟩, rfl, rfl, rfl, rfl⟩)) fun b hb => by simp at hb; omega)
  · intro c hc kc hk
    simp at hc
    subst hc
    rw [k1] at hk
    cases hk
    rfl
  · have : i = 0 ∨ i = 1 := by simp at hi; omega
    rcases this with rfl | rfl
    · exact frac_rel ha H1
    · exact frac_rel hb H1

theorem isFr_i64 {a : Frac} (h : isFr 1000000000 a = true) : (I64 a.1 ∧ I64 a.2) ∧ a.1.natAbs ≤ 1000000000 ∧ 1 ≤ a.2 ∧ a.2 ≤ 1000000000 := by
  obtain ⟨h1, h2, _⟩ := isFr_iff.1 h
  unfold I64
  omega

theorem fn22 {H0 : Heap} {Q : Post} {a b : Frac} (ha : isFr 1000000000 a = true) (hb : isFr 1000000000 b = true) (hQ : ∀ H', H0.Le H' → Q (.tuple #[.int .i64 (sgI (a.1 * b.2 - b.1 * a.2)), .int .i64 0]) H') : Runs Tryz.prog 22 #[.agg (frC a).toArray, .agg (frC b).toArray] H0 Q := by
  obtain ⟨a1, a2, a3⟩ := isFr_i64 ha
  obtain ⟨b1, b2, b3⟩ := isFr_i64 hb
  refine f22.enter ?_
  unfold f22.w
  refine Wl.box (Loc.start H0) fun H x h => Wl.box h fun H y h => Wl.getA (b := x) h rfl (Wl.getA (b := y) h rfl (Wl.litFr2 a1 b1 h fun H v h => Wi.call (fn80 (h.rd (cs := [v])) fun H t l ht => ?_)))
  have h := h.to l
  have : t = true := ht.2 fun z hz => by
    simp at hz
    rcases hz with rfl | rfl
    · exact ha
    · exact hb
  subst this
  simp only [gw]
  refine Wl.getA (b := x) h rfl (Wl.getA (b := y) h rfl (Wi.call (fn91 (mulA a2 (show b.2.natAbs ≤ 1000000000 by omega)) (mulA b2 (show a.2.natAbs ≤ 1000000000 by omega)) (by decide) fun H l => ?_)))
  exact hQ _ (h.to l).le

end Go.Proofs.YtdchibdcfdbcpaaGreat
