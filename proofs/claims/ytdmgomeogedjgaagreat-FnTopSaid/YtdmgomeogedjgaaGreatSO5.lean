/- The solution of a set, the reference's; P matrices have one solution. No condition. -/
import Derived.Test.YtdmgomeogedjgaaGreatSO4
import Derived.Test.YtdmgomeogedjgaaGreatZabMurty
namespace Go.Proofs.YtdmgomeogedjgaaGreat
open Go.Ab

/- loop.example/g01343/spec.l02Solution -/
def f57.j1 (Q : Post) (i_7 : Value) (I1 : St [7] → Heap → Prop) (H : Heap) : Prop :=
  W.bin .add i_7 (.int .i64 1) H fun v14 H =>
  I1 (v14, ()) H
def f57.l1 (Q : Post) (v4 : Value) (s_1 : Value) (I1 : St [7] → Heap → Prop) (i_7 : Value) (H : Heap) : Prop :=
  W.len v4 H fun v6 H =>
  W.bin .lss i_7 v6 H fun v7 H =>
  W.cond v7 H
  (fun H => W.conv .u64 i_7 H fun v8 H =>
   W.bin .shr s_1 v8 H fun v9 H =>
   W.bin .and v9 (.int .i64 1) H fun v10 H =>
   W.bin .eql v10 (.int .i64 0) H fun v11 H =>
   W.cond v11 H
   (fun H => W.build [(.int .i64 0), (.int .i64 0)] [(0, 1, (.int .i64 0)), (1, 1, (.int .i64 1))] H fun v12 H =>
    W.indexAddr 2 v4 i_7 H fun v13 H =>
    W.putN 2 v13 v12 H fun _ H =>
    f57.j1 Q i_7 I1 H)
   (fun H => f57.j1 Q i_7 I1 H))
  (fun H => Q v4 H)
def f57.w (Q : Post) (p_0 : Value) (s_1 : Value) (H : Heap) : Prop :=
  W.box p_0 31 H fun v1 H =>
  W.getN 2 v1 H fun v2 H =>
  W.call Tryz.prog (.func (.func 37) #[] #[]) #[v2, s_1] H fun v3 H =>
  W.extract 0 v3 H fun v4 H =>
  W.extract 1 v3 H fun v5 H =>
  W.loop (S := St [7]) (fun I1 s H => f57.l1 Q v4 s_1 I1 s.1 H) ((.int .i64 0), ()) H
theorem f57.enter {Q : Post} {p_0 : Value} {s_1 : Value} {H : Heap} (h : f57.w Q p_0 s_1 H) : Runs Tryz.prog 57 #[p_0, s_1] H Q :=
  fn_enter (ann := [(3, [7])]) (by kernel_rfl) Tryz.func57 rfl (by kernel_rfl) h (by kernel_rfl)


theorem fn57 {H0 : Heap} {Q : Post} {cs : List Value} {p : Prob} {n s : Nat} (hr : Has RProblem H0 cs p) (hpb : PB n p) (hs : s < 9223372036854775808) (hD : det n (mAt (colL n p.1 s)) ≠ 0) (hQ : ∀ H' u, Fresh RFS H0 [u] (solF n p s) H' → Q u H') : Runs Tryz.prog 57 #[.agg cs.toArray, .int .i64 (s : Nat)] H0 Q := by
  have hlen := hr.len
  have hn := hpb.n5
  have h := (Loc.start H0).lent hr
  refine f57.enter ?_
  unfold f57.w
  refine Wl.box h fun H b h => Wl.getA h hlen (Wi.call (fn37 (h.rd (cs := cs)) hpb hs (fun g => absurd g hD) fun _ H w f => ?_))
  have h := h.add f
  simp only [gw]
  have e0 : pointF n (colL n p.1 s) p.2 = (List.range n).map fun i => if i < 0 ∧ s.testBit i = false then (0, 1) else frac ((solveL n (colL n p.1 s) p.2).getD i 0) (det n (mAt (colL n p.1 s))) := by
    apply List.ext_getElem
    · simp [pointF, solveL_len]
    · intro j h1 h2
      rw [pointF_at]
      have : j < (solveL n (colL n p.1 s) p.2).length := by simpa [pointF] using h1
      simp [List.getD_eq_getElem?_getD, List.getElem?_eq_getElem this]
  rw [e0] at h
  refine W.for_rule n (fun x st H => st = (.int .i64 (x : Nat), ()) ∧ Ab.Loc H0 [.data RFS [w] ((List.range n).map fun i => if i < x ∧ s.testBit i = false then (0, 1) else frac ((solveL n (colL n p.1 s) p.2).getD i 0) (det n (mAt (colL n p.1 s))))] H) ⟨rfl, h.first 1⟩ ?_
  rintro x st H J hx ⟨rfl, h⟩ hJ
  have hI : I64 ((x : Int) + 1) := by unfold I64; omega
  refine Wl.len h ?_
  rw [show ((List.range n).map fun i => if i < x ∧ s.testBit i = false then ((0, 1) : Frac) else frac ((solveL n (colL n p.1 s) p.2).getD i 0) (det n (mAt (colL n p.1 s)))).length = n by simp]
  refine Wi.lssC (fun hlt => Wi.tru ?_) fun hge => Wi.fls ?_
  · have hxn : x < n := by omega
    refine Wi.convN (by omega) (Wi.shrN (by omega) (by omega) (Wi.and1 (Wi.eqlC (fun hz0 => Wi.tru ?_) fun hnz => Wi.fls ?_)))
    · have hb : s.testBit x = false := by
        cases hb : s.testBit x with
        | false => rfl
        | true => have := bit_iff.2 hb; omega
      refine Wi.build (cells := frC (0, 1)) rfl (Wl.setP (r := RFrac) (y := ((0, 1) : Frac)) rfl h (by simpa using hxn) (frac_rel ⟨by unfold I64; decide, by unfold I64; decide⟩) fun H h => ?_)
      unfold f57.j1
      refine Wi.add hI (hJ _ _ hxn ⟨rfl, ?_⟩)
      have e : ((List.range n).map fun i => if i < x ∧ s.testBit i = false then ((0, 1) : Frac) else frac ((solveL n (colL n p.1 s) p.2).getD i 0) (det n (mAt (colL n p.1 s)))).set x (0, 1) = (List.range n).map fun i => if i < x + 1 ∧ s.testBit i = false then ((0, 1) : Frac) else frac ((solveL n (colL n p.1 s) p.2).getD i 0) (det n (mAt (colL n p.1 s))) := by
        apply List.ext_getElem
        · simp
        · intro j h1 h2
          rw [List.getElem_set]
          simp only [List.getElem_map, List.getElem_range]
          by_cases g : x = j
          · subst g; simp [hb]
          · rw [if_neg g]
            by_cases g2 : j < x
            · simp [g2, show j < x + 1 by omega]
            · simp [g2, show ¬ j < x + 1 by omega]
      rw [e] at h
      exact h
    · have hb : s.testBit x = true := bit_iff.1 (by omega)
      unfold f57.j1
      refine Wi.add hI (hJ _ _ hxn ⟨rfl, ?_⟩)
      have e : ((List.range n).map fun i => if i < x ∧ s.testBit i = false then ((0, 1) : Frac) else frac ((solveL n (colL n p.1 s) p.2).getD i 0) (det n (mAt (colL n p.1 s)))) = (List.range n).map fun i => if i < x + 1 ∧ s.testBit i = false then ((0, 1) : Frac) else frac ((solveL n (colL n p.1 s) p.2).getD i 0) (det n (mAt (colL n p.1 s))) := List.map_congr_left fun j _ => by
        by_cases g2 : j < x
        · simp [g2, show j < x + 1 by omega]
        · by_cases g3 : j = x
          · subst g3; simp [hb]
          · simp [g2, show ¬ j < x + 1 by omega]
      rw [← e]
      exact h
  · have : x = n := by omega
    subst this
    have e : ((List.range x).map fun i => if i < x ∧ s.testBit i = false then ((0, 1) : Frac) else frac ((solveL x (colL x p.1 s) p.2).getD i 0) (det x (mAt (colL x p.1 s)))) = solF x p s := List.map_congr_left fun k hk => by
      have hk : k < x := by simpa using hk
      cases hb : s.testBit k <;> simp [hk]
    rw [e] at h
    exact hQ _ _ (h.ret (i := 0) rfl)

/-! ### One solution -/

theorem frac_like {x y a b : Int} (ha : 0 < a) (hb : 0 < b) (h : x * b = y * a) : frac x a = frac y b := by
  have p1 := frac_pos (n := x) (d := a) (by omega)
  have p2 := frac_pos (n := y) (d := b) (by omega)
  have m1 := frac_mul (n := x) (d := a) (by omega)
  have m2 := frac_mul (n := y) (d := b) (by omega)
  refine (frac_cross (by omega) (by omega) (frac_gcd (by omega)) (frac_gcd (by omega))).1 ?_
  generalize frac x a = u at *
  generalize frac y b = v at *
  have : u.1 * v.2 * (a * b) = v.1 * u.2 * (a * b) := by
    rw [show u.1 * v.2 * (a * b) = u.1 * a * (v.2 * b) by ac_rfl, m1, show v.1 * u.2 * (a * b) = v.1 * b * (u.2 * a) by ac_rfl, m2, show x * u.2 * (v.2 * b) = x * b * (u.2 * v.2) by ac_rfl, h]
    ac_rfl
  exact Int.eq_of_mul_eq_mul_right (Int.mul_ne_zero (by omega) (by omega)) this

theorem solF_pt {n : Nat} {p : Prob} {s : Nat} (hD : det n (mAt (colL n p.1 s)) ≠ 0) {i : Nat} (hi : i < n) : frac ((solveL n (colL n p.1 s) p.2).getD i 0) (det n (mAt (colL n p.1 s))) = frac ((ptOf n p s).getD i 0) ((det n (mAt (colL n p.1 s))).natAbs : Nat) := by
  rw [pt_at hi, frac_scale hD]

theorem P_solF {n : Nat} {p : Prob} (hP : IsP n p.1) {s t : Nat} (hs : s < 2 ^ n) (ht : t < 2 ^ n) (h1 : ∀ i, i < n → 0 ≤ (ptOf n p s).getD i 0) (h2 : ∀ i, i < n → 0 ≤ (ptOf n p t).getD i 0) : solF n p s = solF n p t := by
  have hDs := P_det hP hs
  have hDt := P_det hP ht
  refine List.map_congr_left fun i hi => ?_
  have hin : i < n := by simpa using hi
  by_cases e : s.testBit i = t.testBit i
  · have hl := P_like hP hs ht h1 h2 i hin e
    rw [e, solF_pt hDs hin, solF_pt hDt hin, frac_like (by omega) (by omega) hl]
  · obtain ⟨z1, z2⟩ := P_only hP hs ht h1 h2 i hin e
    rw [solF_pt hDs hin, solF_pt hDt hin, z1, z2, frac_zero (by omega), frac_zero (by omega)]
    split <;> split <;> rfl

end Go.Proofs.YtdmgomeogedjgaaGreat
