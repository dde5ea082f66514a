/- Draws: a fraction. No condition. -/
import Derived.Test.YtbcfknboheghkaaGreatGDR
import Derived.Test.YtbcfknboheghkaaGreatZabG9
namespace Go.Proofs.YtbcfknboheghkaaGreat
open Go.Ab

/- loop.example/g01343/spec.l01DrawFrac -/
def f137.w (Q : Post) (s_0 : Value) (H : Heap) : Prop :=
  W.new [(.int .i64 0), (.int .i64 0)] 39 H fun v1 H =>
  W.lit 4 [(.int .i64 0)] 2 [(0, 1, (.int .i64 3)), (1, 1, (.int .i64 20)), (2, 1, (.int .i64 100000)), (3, 1, (.int .i64 1000000000))] H fun v2 H =>
  W.call Tryz.prog (.func (.func 105) #[] #[]) #[s_0, v2] H fun v3 H =>
  W.lit 5 [(.int .i64 0)] 2 [(0, 1, (.int .i64 1)), (1, 1, (.int .i64 4)), (2, 1, (.int .i64 20)), (3, 1, (.int .i64 100000)), (4, 1, (.int .i64 1000000000))] H fun v4 H =>
  W.call Tryz.prog (.func (.func 105) #[] #[]) #[s_0, v4] H fun v5 H =>
  W.call Tryz.prog (.func (.func 154) #[] #[]) #[s_0, v3] H fun v6 H =>
  W.call Tryz.prog (.func (.func 103) #[] #[]) #[s_0, v5] H fun v7 H =>
  W.bin .add (.int .i64 1) v7 H fun v8 H =>
  W.call Tryz.prog (.func (.func 102) #[] #[]) #[v6, v8] H fun v9 H =>
  W.new [(.int .i64 0), (.int .i64 0)] 39 H fun v10 H =>
  W.putN 2 v10 v9 H fun _ H =>
  W.call Tryz.prog (.func (.func 103) #[] #[]) #[s_0, (.int .i64 40)] H fun v11 H =>
  W.bin .eql v11 (.int .i64 0) H fun v12 H =>
  W.cond v12 H
  (fun H => W.fieldAddr 0 v10 H fun v13 H =>
   W.get v13 H fun v14 H =>
   W.bin .mul v14 (.int .i64 2) H fun v15 H =>
   W.fieldAddr 1 v10 H fun v16 H =>
   W.get v16 H fun v17 H =>
   W.bin .mul v17 (.int .i64 2) H fun v18 H =>
   W.build [(.int .i64 0), (.int .i64 0)] [(0, 1, v15), (1, 1, v18)] H fun v19 H =>
   W.putN 2 v1 v19 H fun _ H =>
   W.getN 2 v1 H fun v20 H => Q v20 H)
  (fun H => W.bin .eql v11 (.int .i64 1) H fun v21 H =>
   W.cond v21 H
   (fun H => W.fieldAddr 0 v10 H fun v22 H =>
    W.get v22 H fun v23 H =>
    W.lit 3 [(.int .i64 0)] 2 [(0, 1, (.int .i64 0)), (1, 1, (.int .i64 (-1))), (2, 1, (.int .i64 1000000001))] H fun v24 H =>
    W.call Tryz.prog (.func (.func 105) #[] #[]) #[s_0, v24] H fun v25 H =>
    W.chk (fun H k => W.get v22 H k) v23 H (W.build [(.int .i64 0), (.int .i64 0)] [(0, 1, v23), (1, 1, v25)] H fun v26 H =>
    W.putN 2 v1 v26 H fun _ H =>
    W.getN 2 v1 H fun v27 H => Q v27 H))
   (fun H => W.getN 2 v10 H fun v28 H =>
    W.putN 2 v1 v28 H fun _ H =>
    W.getN 2 v1 H fun v29 H => Q v29 H))
theorem f137.enter {Q : Post} {s_0 : Value} {H : Heap} (h : f137.w Q s_0 H) : Runs Tryz.prog 137 #[s_0] H Q :=
  fn_enter (ann := [(1000007, [])]) (by kernel_rfl) Tryz.func137 rfl (by kernel_rfl) h (by kernel_rfl)


section
variable {H0 H : Heap} {L : List (Atom H0.next)} {Q : Post} {b i : Nat} {vc : Value} {code : List Int}

theorem fnW154 {most : Int} (h : Ab.Loc H0 L H) (hi : L[i]? = some (.src b vc code)) (hm : 0 ≤ most ∧ most ≤ 1000000000) (hQ : ∀ H' (x : Int), Ab.Loc H0 L H' → x.natAbs ≤ 1000000000 → Q (.int .i64 x) H') : Runs Tryz.prog 154 #[pt b 0, .int .i64 most] H Q := by
  refine f154.enter (Wi.mul (by unfold I64; omega) (Wi.add (by unfold I64; omega) (Wi.call (fn103 h hi fun H x h hx hn => ?_))))
  have := hn (by omega)
  exact Wi.sub (by unfold I64; omega) (hQ _ _ h (by omega))

theorem frac_i64' {x d : Int} (hx : x.natAbs ≤ 1000000000) (hd : d.natAbs ≤ 1073742080) : (frac x d).1.natAbs ≤ 1000000000 ∧ (frac x d).2.natAbs ≤ 1073742080 := by
  have := frac_abs (x := x) (d := d)
  omega

theorem fn137 (h : Ab.Loc H0 L H) (hi : L[i]? = some (.src b vc code)) (hQ : ∀ H' (a : Frac), Ab.Loc H0 L H' → I64 a.1 ∧ I64 a.2 → Q (.agg (frC a).toArray) H') : Runs Tryz.prog 137 #[pt b 0] H Q := by
  refine f137.enter ?_
  unfold f137.w
  refine Wl.new h fun H b1 h => Wl.litN [3, 20, 100000, 1000000000] rfl (by decide) (by simp [I64]) rfl h fun H vl h => Wi.call (fn105 (i := i + 2) h (by simpa using hi) (fun H h => h.rd (cs := [vl])) (by decide) fun H t h ht => ?_)
  have ht : 0 ≤ t ∧ t ≤ 1000000000 := by simp at ht; omega
  have h := h.tl
  refine Wl.litN [1, 4, 20, 100000, 1000000000] rfl (by decide) (by simp [I64]) rfl h fun H vl h => Wi.call (fn105 (i := i + 2) h (by simpa using hi) (fun H h => h.rd (cs := [vl])) (by decide) fun H d h hd => ?_)
  have h := h.tl
  refine Wi.call (fnW154 (i := i + 1) h (by simpa using hi) ht fun H x h hx => ?_)
  refine Wi.call (fn103 (i := i + 1) h (by simpa using hi) fun H y h hy _ => ?_)
  refine Wi.add (by unfold I64; omega) (Wi.call (fn102 (n := x) (d := 1 + y) (by unfold B64; omega) (by unfold B64; omega) (by omega) fun H l => ?_))
  have h := h.to l
  obtain ⟨f1, f2⟩ := frac_i64' (x := x) (d := 1 + y) hx (by omega)
  generalize frac x (1 + y) = a at *
  refine Wl.new h fun H b10 h => Wl.putA (b := b10) (i := 0) h rfl rfl rfl fun H h => ?_
  refine Wi.call (fn103 (i := i + 2) h (by simpa using hi) fun H y h hy _ => ?_)
  have h : Ab.Loc H0 (.box b10 (frC a) :: .box b1 [.int .i64 0, .int .i64 0] :: L) H := h
  refine Wi.eqlC (fun _ => Wi.tru ?_) fun _ => Wi.fls ?_
  · refine Wi.fieldAddr0 (Wl.get (b := b10) h rfl (Wi.mul (by unfold I64; omega) (Wi.fieldAddr (Wl.get (b := b10) (o := 1) h rfl (Wi.mul (by unfold I64; omega) ?_)))))
    refine Wi.build (cells := frC (a.1 * 2, a.2 * 2)) rfl (Wl.putA (b := b1) (i := 1) h rfl rfl rfl fun H h => Wl.getA (b := b1) h rfl ?_)
    exact hQ _ (a.1 * 2, a.2 * 2) ((h.cut 0).cut 0) ⟨by unfold I64; omega, by unfold I64; omega⟩
  refine Wi.eqlC (fun _ => Wi.tru ?_) fun _ => Wi.fls ?_
  · refine Wi.fieldAddr0 (Wl.get (b := b10) h rfl ?_)
    refine Wl.litN [0, -1, 1000000001] rfl (by decide) (by simp [I64]) rfl h fun H vl h => Wi.call (fn105 (i := i + 3) h (by simpa using hi) (fun H h => h.rd (cs := [vl])) (by decide) fun H t h ht => ?_)
    have ht : I64 t := by simp at ht; unfold I64; omega
    have h := h.tl
    refine Wi.chk (Wl.get (b := b10) (o := 0) h rfl ⟨rfl, rfl⟩) (Wi.build (cells := frC (a.1, t)) rfl (Wl.putA (b := b1) (i := 1) h rfl rfl rfl fun H h => Wl.getA (b := b1) h rfl ?_))
    exact hQ _ (a.1, t) ((h.cut 0).cut 0) ⟨by unfold I64; omega, ht⟩
  · refine Wl.getA (b := b10) h rfl (Wl.putA (b := b1) (i := 1) h rfl rfl rfl fun H h => Wl.getA (b := b1) h rfl ?_)
    exact hQ _ a ((h.cut 0).cut 0) ⟨by unfold I64; omega, by unfold I64; omega⟩

end
end Go.Proofs.YtbcfknboheghkaaGreat
