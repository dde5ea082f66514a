/- The contract of the reference's l01Copy. No condition. -/
import Derived.Test.YtccppfpjiaafaaaA2
import Derived.Test.YtccppfpjiaafaaaD2
import Derived.Test.YtccppfpjiaafaaaD3
namespace Go.Proofs.Ytccppfpjiaafaaa
open Go.Ab

/- loop.example/g01343/spec.l01Copy -/
def f57.l1 (Q : Post) (v1 : Value) (v8 : Value) (v2 : Value) (I1 : St [4] → Heap → Prop) (i_4 : Value) (H : Heap) : Prop :=
  W.fieldAddr 0 v1 H fun v9 H =>
  W.get v9 H fun v10 H =>
  W.len v10 H fun v11 H =>
  W.bin .lss i_4 v11 H fun v12 H =>
  W.cond v12 H
  (fun H => W.fieldAddr 0 v8 H fun v13 H =>
   W.get v13 H fun v14 H =>
   W.fieldAddr 0 v1 H fun v15 H =>
   W.get v15 H fun v16 H =>
   W.indexAddr 1 v16 i_4 H fun v17 H =>
   W.get v17 H fun v18 H =>
   W.callQ Try.prog (.func (.func 71) #[] #[]) #[v18] H fun v19 H =>
   W.lit 1 [(.slice none 0 0)] 23 [(0, 1, v19)] H fun v20 H =>
   W.append 1 23 v14 v20 H fun v21 H =>
   W.fieldAddr 0 v8 H fun v22 H =>
   W.put v22 v21 H fun _ H =>
   W.bin .add i_4 (.int .i64 1) H fun v23 H =>
   I1 (v23, ()) H)
  (fun H => W.getN 2 v8 H fun v24 H =>
   W.putN 2 v2 v24 H fun _ H =>
   W.getN 2 v2 H fun v25 H => Q v25 H)
def f57.w (Q : Post) (p_0 : Value) (H : Heap) : Prop :=
  W.box p_0 35 H fun v1 H =>
  W.new [(.slice none 0 0), (.slice none 0 0)] 35 H fun v2 H =>
  W.lit 0 [(.slice none 0 0)] 23 [] H fun v3 H =>
  W.fieldAddr 1 v1 H fun v4 H =>
  W.get v4 H fun v5 H =>
  W.call Try.prog (.func (.func 71) #[] #[]) #[v5] H fun v6 H =>
  W.build [(.slice none 0 0), (.slice none 0 0)] [(0, 1, v3), (1, 1, v6)] H fun v7 H =>
  W.new [(.slice none 0 0), (.slice none 0 0)] 35 H fun v8 H =>
  W.putN 2 v8 v7 H fun _ H =>
  W.loop (S := St [4]) (fun I1 s H => f57.l1 Q v1 v8 v2 I1 s.1 H) ((.int .i64 0), ()) H
theorem f57.enter {Q : Post} {p_0 : Value} {H : Heap} (h : f57.w Q p_0 H) : Runs Try.prog 57 #[p_0] H Q :=
  fn_enter (ann := [(3, [4])]) (by kernel_rfl) Try.func57 rfl (by kernel_rfl) h (by kernel_rfl)


theorem fn57 {H0 : Heap} {Q : Post} {cs : List Value} {p : Prob} (hr : Has RProblem H0 cs p) (hm : okRows p.1) (hq : p.2.length ≤ 1048576) (hQ : ∀ H' w1 w2, Fresh RProblem H0 [w1, w2] p H' → Q (.agg #[w1, w2]) H') :
    Runs Try.prog 57 #[.agg cs.toArray] H0 Q := by
  obtain ⟨u1, u2, rfl, r1, r2⟩ := hasProb hr
  have := hm.1
  refine f57.enter ?_
  unfold f57.w
  have h := ((Loc.start H0).lent r1).lent r2
  refine Wl.box h fun H b h => Wl.new h fun H b2 h => Wl.lit0 RS rfl h fun H g h => Wi.fieldAddr0 (Wl.get h rfl (Wi.call (fn71 h.rd (by omega) fun H w2 f2 => ?_)))
  have h := h.add f2.fresh
  have c1 := (h.rd (cs := [g])).one
  have c2 := f2.fresh.read.one
  have k2 := f2.fresh.read.cell
  refine Wi.build (cells := [g, w2]) (by simp [fillA, c1, c2]) ?_
  have kall : ∀ (u : Value) (H : Heap), Has RSS H [u] (p.1.take 0) ∨ (∃ i, Has RSS H [u] (p.1.take i)) → [u, w2].all isCell = true := fun u H hu => by
    have k1 : [u].all isCell = true := by
      rcases hu with hu | ⟨i, hu⟩
      · exact hu.cell
      · exact hu.cell
    simp only [List.all_cons, List.all_nil, Bool.and_true] at k1 k2 ⊢
    rw [k1, k2]
    rfl
  refine Wl.new h fun H b3 h => Wl.putA h rfl rfl (kall _ H (.inl h.rd)) fun H h => ?_
  refine W.for_rule p.1.length (fun i s H => ∃ u, s = (.int .i64 (i : Nat), ()) ∧ Ab.Loc H0 [.box b3 [u, w2], .data RS [w2] p.2, .grow RS 23 u (p.1.take i), .box b2 [.slice none 0 0, .slice none 0 0], .box b [u1, u2], .lent RS [u2] p.2, .lent RSS [u1] p.1] H) ⟨_, rfl, h⟩ ?_
  rintro i s H J hi ⟨u, rfl, h⟩ hJ
  refine Wi.fieldAddr0 (Wl.get h rfl (Wl.len h (Wi.lssC (fun hlt => Wi.tru ?_) fun hge => Wi.fls ?_)))
  · have hix : i < p.1.length := by omega
    refine Wi.fieldAddr0 (Wl.get h rfl (Wi.fieldAddr0 (Wl.get h rfl (Wl.at1 rfl h hix fun w hw => Wi.callQ (fn71 hw (by have := hm.2 _ (List.getElem_mem hix); omega) fun H2 u2' f => ⟨f.le, ?_⟩)))))
    refine Wl.pushF rfl h f.fresh f.fresh.read.one (by simp; omega) fun H3 v' h => Wi.fieldAddr0 (Wl.put h (h.rd (cs := [v'])).cell1 (by simp) fun H h => Wi.add (by unfold I64; omega) (hJ _ _ hix ⟨v', rfl, ?_⟩))
    rw [List.take_succ_eq_append_getElem hix]
    exact h
  · have : i = p.1.length := by omega
    subst this
    rw [List.take_length] at h
    have k1 := h.rd (cs := [u])
    refine Wl.getA h rfl (Wl.putA h rfl rfl (kall _ H (.inr ⟨p.1.length, by rw [List.take_length]; exact k1⟩)) fun H h => Wl.getA h rfl (hQ _ _ _ ?_))
    exact (h.asData (i := 2) rfl).ret2 (i := 2) (j := 1) rfl rfl (by omega)

end Go.Proofs.Ytccppfpjiaafaaa
