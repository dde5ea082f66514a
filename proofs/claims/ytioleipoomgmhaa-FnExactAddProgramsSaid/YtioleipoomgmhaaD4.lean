/- The contract of l09Rows. No condition. -/
import Derived.Test.YtioleipoomgmhaaD2
import Derived.Test.YtioleipoomgmhaaD3
namespace Go.Proofs.Ytioleipoomgmhaa
open Go.Ab

/- loop.example/g01343/spec.l09Rows -/
def f47.l1 (Q : Post) (rows_0 : Value) (I1 : St [3, 4] → Heap → Prop) (out_3 : Value) (i_4 : Value) (H : Heap) : Prop :=
  W.len rows_0 H fun v2 H =>
  W.bin .lss i_4 v2 H fun v3 H =>
  W.cond v3 H
  (fun H => W.indexAddr 1 rows_0 i_4 H fun v4 H =>
   W.get v4 H fun v5 H =>
   W.call Try.prog (.func (.func 48) #[] #[]) #[v5] H fun v6 H =>
   W.lit 1 [(.slice none 0 0)] 26 [(0, 1, v6)] H fun v7 H =>
   W.append 1 26 out_3 v7 H fun v8 H =>
   W.bin .add i_4 (.int .i64 1) H fun v9 H =>
   I1 (v8, v9, ()) H)
  (fun H => Q out_3 H)
def f47.w (Q : Post) (rows_0 : Value) (H : Heap) : Prop :=
  W.lit 0 [(.slice none 0 0)] 26 [] H fun v1 H =>
  W.loop (S := St [3, 4]) (fun I1 s H => f47.l1 Q rows_0 I1 s.1 s.2.1 H) (v1, (.int .i64 0), ()) H
theorem f47.enter {Q : Post} {rows_0 : Value} {H : Heap} (h : f47.w Q rows_0 H) : Runs Try.prog 47 #[rows_0] H Q :=
  fn_enter (ann := [(3, [3, 4])]) (by kernel_rfl) Try.func47 rfl (by kernel_rfl) h (by kernel_rfl)


theorem fn47 {H0 : Heap} {Q : Post} {v : Value} {m : List (List Int)} (hr : Has RSS H0 [v] m) (hm : okRows m) (hQ : ∀ H' u, FreshG RS 26 H0 u m H' → Q u H') : Runs Try.prog 47 #[v] H0 Q := by
  refine f47.enter (Wl.lit0 RS rfl ((Loc.start H0).lent hr) fun H u h => ?_)
  refine W.for_rule m.length (fun i s H => ∃ u, s = (u, .int .i64 (i : Nat), ()) ∧ Ab.Loc H0 [.grow RS 26 u (m.take i), .lent RSS [v] m] H) ⟨_, rfl, h⟩ ?_
  rintro i s H J hi ⟨u, rfl, h⟩ hJ
  have := hm.1
  refine Wl.len h (Wi.lssC (fun hlt => Wi.tru ?_) fun hge => Wi.fls ?_)
  · have hix : i < m.length := by omega
    refine Wl.at1 rfl h hix fun w hw => Wi.call (fn48 hw (by have := hm.2 _ (List.getElem_mem hix); omega) fun H2 u2 f => ?_)
    refine Wl.pushF rfl h f.fresh f.fresh.read.one (by simp; omega) fun H3 v' h => Wi.add (by unfold I64; omega) (hJ _ _ hix ⟨v', rfl, ?_⟩)
    rw [List.take_succ_eq_append_getElem hix]
    exact h
  · have : i = m.length := by omega
    subst this
    rw [List.take_length] at h
    exact hQ _ _ (h.retGG (i := 0) rfl)

end Go.Proofs.Ytioleipoomgmhaa
