/- The contracts of IsCovered, the program's and the reference's. No condition. -/
import Derived.Test.YthfcodelpebjcaaV1
import Derived.Test.YthfcodelpebjcaaV2
import Derived.Test.YthfcodelpebjcaaV3
import Derived.Test.YthfcodelpebjcaaQ4
namespace Go.Proofs.Ythfcodelpebjcaa
open Go.Ab

/- loop.example/g01343/spec.l10Covers -/
def f86.l1 (Q : Post) (v4 : Value) (I1 : St [9, 10, 11] → Heap → Prop) (covers_9 : Value) (inner_10 : Value) (i_11 : Value) (H : Heap) : Prop :=
  W.len v4 H fun v7 H =>
  W.bin .lss i_11 v7 H fun v8 H =>
  W.cond v8 H
  (fun H => W.guarded covers_9 true (fun H k => k v4 H) H fun v9 H =>
   W.guarded covers_9 true (fun H k => k i_11 H) H fun v10 H =>
   W.guarded covers_9 true (fun H k => W.indexAddr 2 v9 v10 H k) H fun v11 H =>
   W.guarded covers_9 true (fun H k => W.fieldAddr 0 v11 H k) H fun v12 H =>
   W.guarded covers_9 true (fun H k => W.get v12 H k) H fun v13 H =>
   W.guarded covers_9 true (fun H k => W.bin .geq v13 (.int .i64 0) H k) H fun v14 H =>
   W.pick covers_9 v14 (.bool false) H fun v15 H =>
   W.guarded inner_10 true (fun H k => k v4 H) H fun v16 H =>
   W.guarded inner_10 true (fun H k => k i_11 H) H fun v17 H =>
   W.guarded inner_10 true (fun H k => W.indexAddr 2 v16 v17 H k) H fun v18 H =>
   W.guarded inner_10 true (fun H k => W.fieldAddr 0 v18 H k) H fun v19 H =>
   W.guarded inner_10 true (fun H k => W.get v19 H k) H fun v20 H =>
   W.guarded inner_10 true (fun H k => W.bin .gtr v20 (.int .i64 0) H k) H fun v21 H =>
   W.pick inner_10 v21 (.bool false) H fun v22 H =>
   W.bin .add i_11 (.int .i64 1) H fun v23 H =>
   I1 (v15, v22, v23, ()) H)
  (fun H => Q (.tuple #[(.bool true), covers_9, inner_10]) H)
def f86.w (Q : Post) (p_0 : Value) (s_1 : Value) (H : Heap) : Prop :=
  W.box p_0 27 H fun v1 H =>
  W.getN 2 v1 H fun v2 H =>
  W.call Try.prog (.func (.func 72) #[] #[]) #[v2, s_1] H fun v3 H =>
  W.extract 0 v3 H fun v4 H =>
  W.extract 1 v3 H fun v5 H =>
  W.un .not v5 H fun v6 H =>
  W.cond v6 H
  (fun H => Q (.tuple #[(.bool false), (.bool false), (.bool false)]) H)
  (fun H => W.loop (S := St [9, 10, 11]) (fun I1 s H => f86.l1 Q v4 I1 s.1 s.2.1 s.2.2.1 H) ((.bool true), (.bool true), (.int .i64 0), ()) H)
theorem f86.enter {Q : Post} {p_0 : Value} {s_1 : Value} {H : Heap} (h : f86.w Q p_0 s_1 H) : Runs Try.prog 86 #[p_0, s_1] H Q :=
  fn_enter (ann := [(6, [9, 10, 11])]) (by kernel_rfl) Try.func86 rfl (by kernel_rfl) h (by kernel_rfl)


def covRes (p : Prob) (s : Int) : Bool × Int :=
  if isProb p = true then (if setOk p.2.length s = true then (if det p.2.length (mAt (colL p.2.length p.1 s.toNat)) = 0 then (false, 5) else ((pointL p.2.length (colL p.2.length p.1 s.toNat) p.2).all (fun x => decide (0 ≤ x)), 0)) else (false, 2)) else (false, 1)

theorem setC_ne {p : Prob} {s : Int} (h : setC p s ≠ 0) : covRes p s = (false, setC p s) := by
  unfold setC at h ⊢
  unfold covRes
  by_cases h1 : isProb p = true
  · rw [if_pos h1] at h ⊢
    by_cases h2 : setOk p.2.length s = true
    · rw [if_pos h2] at h; exact absurd rfl h
    · rw [if_pos h1, if_neg h2, if_neg h2]
  · rw [if_neg h1, if_neg h1]

theorem setC_eq {p : Prob} {s : Int} (h : setC p s = 0) : isProb p = true ∧ setOk p.2.length s = true := by
  unfold setC at h
  by_cases h1 : isProb p = true
  · rw [if_pos h1] at h
    by_cases h2 : setOk p.2.length s = true
    · exact ⟨h1, h2⟩
    · rw [if_neg h2] at h; cases h
  · rw [if_neg h1] at h; cases h


theorem pointF_all {n : Nat} {rows : List (List Int)} {q : List Int} (h : det n (mAt rows) ≠ 0) :
    (pointF n rows q).all (fun a => decide (0 ≤ a.1)) = (pointL n rows q).all (fun x => decide (0 ≤ x)) ∧ (pointF n rows q).all (fun a => decide (0 < a.1)) = (pointL n rows q).all (fun x => decide (0 < x)) := by
  unfold pointF pointL
  simp only [List.all_map]
  constructor
  · congr 1
    funext x
    simp only [Function.comp]
    rw [decide_eq_decide]
    exact (frac_sign h).1
  · congr 1
    funext x
    simp only [Function.comp]
    rw [decide_eq_decide]
    exact (frac_sign h).2

theorem fn86 {H0 : Heap} {Q : Post} {cs : List Value} {p : Prob} {n s : Nat} (hr : Has RProblem H0 cs p) (hp : PB n p) (hs : s < 9223372036854775808)
    (h1 : det n (mAt (colL n p.1 s)) = 0 → ∀ H', H0.Le H' → Q (.tuple #[.bool false, .bool false, .bool false]) H')
    (h2 : det n (mAt (colL n p.1 s)) ≠ 0 → ∀ H', H0.Le H' → Q (.tuple #[.bool true, .bool ((pointL n (colL n p.1 s) p.2).all fun x => decide (0 ≤ x)), .bool ((pointL n (colL n p.1 s) p.2).all fun x => decide (0 < x))]) H') :
    Runs Try.prog 86 #[.agg cs.toArray, .int .i64 (s : Nat)] H0 Q := by
  have hlen := hr.len
  have hn := hp.n5
  refine f86.enter ?_
  unfold f86.w
  have h := (Loc.start H0).lent hr
  refine Wl.box h fun H b h => Wl.getA h hlen (Wi.call (fn72 (h.rd (cs := cs)) hp hs (fun hz H l => ?_) fun hnz H u f => ?_))
  · simp only [gw]
    exact h1 hz _ (h.to l).le
  simp only [gw]
  have h := h.add f
  have hpl : (pointF n (colL n p.1 s) p.2).length = n := by simp [pointF, solveL_len]
  refine W.for_rule n (fun i st H' => st = (.bool (((pointF n (colL n p.1 s) p.2).take i).all fun a => decide (0 ≤ a.1)), .bool (((pointF n (colL n p.1 s) p.2).take i).all fun a => decide (0 < a.1)), .int .i64 (i : Nat), ()) ∧ Ab.Loc H0 [.data RFS [u] (pointF n (colL n p.1 s) p.2)] H') ⟨rfl, h.first 1⟩ ?_
  rintro i st H J hi ⟨rfl, h⟩ hJ
  refine Wl.len h (Wi.lssC (fun hlt => Wi.tru ?_) fun hge => Wi.fls ?_)
  · have hin : i < n := by omega
    have hif : i < (pointF n (colL n p.1 s) p.2).length := by omega
    have t1 := take_all (f := fun a : Frac => decide (0 ≤ a.1)) hif
    have t2 := take_all (f := fun a : Frac => decide (0 < a.1)) hif
    have hI : I64 ((i : Int) + 1) := by unfold I64; omega
    have fin : ∀ c d, c = ((pointF n (colL n p.1 s) p.2).take (i + 1)).all (fun a => decide (0 ≤ a.1)) → d = ((pointF n (colL n p.1 s) p.2).take (i + 1)).all (fun a => decide (0 < a.1)) → W.bin .add (.int .i64 (i : Nat)) (.int .i64 1) H fun v23 H => J (.bool c, .bool d, v23, ()) H := fun c d hc hd => by
      subst hc hd
      exact Wi.add hI (hJ _ _ hin ⟨rfl, h⟩)
    have part2 : ∀ c, c = ((pointF n (colL n p.1 s) p.2).take (i + 1)).all (fun a => decide (0 ≤ a.1)) → ∀ (hd : Bool), hd = ((pointF n (colL n p.1 s) p.2).take i).all (fun a => decide (0 < a.1)) →
        W.guarded (.bool hd) true (fun H k => k u H) H fun v16 H => W.guarded (.bool hd) true (fun H k => k (.int .i64 (i : Nat)) H) H fun v17 H => W.guarded (.bool hd) true (fun H k => W.indexAddr 2 v16 v17 H k) H fun v18 H => W.guarded (.bool hd) true (fun H k => W.fieldAddr 0 v18 H k) H fun v19 H => W.guarded (.bool hd) true (fun H k => W.get v19 H k) H fun v20 H => W.guarded (.bool hd) true (fun H k => W.bin .gtr v20 (.int .i64 0) H k) H fun v21 H =>
          W.pick (.bool hd) v21 (.bool false) H fun v22 H => W.bin .add (.int .i64 (i : Nat)) (.int .i64 1) H fun v23 H => J (.bool c, v22, v23, ()) H := fun c hc hd e => by
      cases hd with
      | false =>
        simp only [gw]
        exact fin _ _ hc (by rw [t2, ← e]; rfl)
      | true =>
        simp only [gw]
        refine Wl.numFr h hif fun _ => Wi.gtr ?_
        exact fin _ _ hc (by rw [t2, ← e]; rfl)
    generalize e1 : ((pointF n (colL n p.1 s) p.2).take i).all (fun a => decide (0 ≤ a.1)) = c at *
    cases c with
    | false =>
      simp only [gw]
      exact part2 _ (by rw [t1]; rfl) _ rfl
    | true =>
      simp only [gw]
      refine Wl.numFr h hif fun _ => Wi.geq ?_
      exact part2 _ (by rw [t1]; rfl) _ rfl
  · have : i = n := by omega
    subst this
    have ht : (pointF i (colL i p.1 s) p.2).take i = pointF i (colL i p.1 s) p.2 := List.take_of_length_le (by omega)
    rw [ht, (pointF_all hnz).1, (pointF_all hnz).2]
    exact h2 hnz _ h.le


end Go.Proofs.Ythfcodelpebjcaa
