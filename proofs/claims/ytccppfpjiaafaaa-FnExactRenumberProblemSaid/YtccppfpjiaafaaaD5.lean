/- The contract of the program's copied. No condition. -/
import Derived.Test.YtccppfpjiaafaaaA2
import Derived.Test.YtccppfpjiaafaaaD3
namespace Go.Proofs.Ytccppfpjiaafaaa
open Go.Ab

/- (loop.example/g01343/impl.Problem).copied -/
def f60.w (Q : Post) (p_0 : Value) (H : Heap) : Prop :=
  W.box p_0 35 H fun v1 H =>
  W.new [(.slice none 0 0), (.slice none 0 0)] 35 H fun v2 H =>
  W.fieldAddr 0 v1 H fun v3 H =>
  W.get v3 H fun v4 H =>
  W.callQ Try.prog (.func (.func 73) #[] #[]) #[v4] H fun v5 H =>
  W.fieldAddr 1 v1 H fun v6 H =>
  W.get v6 H fun v7 H =>
  W.callQ Try.prog (.func (.func 80) #[] #[]) #[v7] H fun v8 H =>
  W.build [(.slice none 0 0), (.slice none 0 0)] [(0, 1, v5), (1, 1, v8)] H fun v9 H =>
  W.putN 2 v2 v9 H fun _ H =>
  W.getN 2 v2 H fun v10 H => Q v10 H
theorem f60.enter {Q : Post} {p_0 : Value} {H : Heap} (h : f60.w Q p_0 H) : Runs Try.prog 60 #[p_0] H Q :=
  fn_enter (ann := []) (by kernel_rfl) Try.func60 rfl (by kernel_rfl) h (by kernel_rfl)


theorem fn60 {H0 : Heap} {Q : Post} {cs : List Value} {p : Prob} (hr : Has RProblem H0 cs p) (hm : okRows p.1) (hq : p.2.length ≤ 1048576) (hQ : ∀ H' w1 w2, Fresh RProblem H0 [w1, w2] p H' → Q (.agg #[w1, w2]) H') :
    Runs Try.prog 60 #[.agg cs.toArray] H0 Q := by
  obtain ⟨u1, u2, rfl, r1, r2⟩ := hasProb hr
  refine f60.enter ?_
  unfold f60.w
  have h := ((Loc.start H0).lent r1).lent r2
  refine Wl.box h fun H b h => Wl.new h fun H b2 h => Wi.fieldAddr0 (Wl.get h rfl (Wi.callQ (fn73 h.rd hm fun H w1 f1 => ⟨f1.le, ?_⟩)))
  have h := h.add f1.fresh
  refine Wi.fieldAddr0 (Wl.get h rfl (Wi.callQ (fn80 h.rd (by omega) fun H w2 f2 => ⟨f2.le, ?_⟩)))
  have h := h.add f2.fresh
  have c1 := f1.fresh.read.one
  have c2 := f2.fresh.read.one
  refine Wi.build (cells := [w1, w2]) (by simp [fillA, c1, c2]) (Wl.putA h rfl rfl ?_ fun H h => Wl.getA h rfl (hQ _ _ _ (h.ret2 (i := 1) (j := 0) rfl rfl (by omega))))
  have k1 := f1.fresh.read.cell
  have k2 := f2.fresh.read.cell
  simp only [List.all_cons, List.all_nil, Bool.and_true] at k1 k2 ⊢
  rw [k1, k2]
  rfl

end Go.Proofs.Ytccppfpjiaafaaa
