/- The contract of only: the numbers in a set. No condition. -/
import Derived.Test.YtdmgomeogedjgaaGreatGDD
import Derived.Test.YtdmgomeogedjgaaGreatGVV
import Derived.Test.YtdmgomeogedjgaaGreatZabG8
namespace Go.Proofs.YtdmgomeogedjgaaGreat
open Go.Ab

/- loop.example/g01343/impl.only -/
def f51.j1 (Q : Post) (x_11 : Value) (I1 : St [11] → Heap → Prop) (H : Heap) : Prop :=
  W.bin .add x_11 (.int .i64 1) H fun v7 H =>
  I1 (v7, ()) H
def f51.l1 (Q : Post) (v2 : Value) (s_1 : Value) (v1 : Value) (I1 : St [11] → Heap → Prop) (x_11 : Value) (H : Heap) : Prop :=
  W.bin .lss x_11 v2 H fun v3 H =>
  W.cond v3 H
  (fun H => W.call Tryz.prog (.func (.func 97) #[] #[]) #[s_1, x_11] H fun v4 H =>
   W.un .not v4 H fun v5 H =>
   W.cond v5 H
   (fun H => W.indexAddr 1 v1 x_11 H fun v6 H =>
    W.put v6 (.int .i64 0) H fun _ H =>
    f51.j1 Q x_11 I1 H)
   (fun H => f51.j1 Q x_11 I1 H))
  (fun H => Q v1 H)
def f51.w (Q : Post) (point_0 : Value) (s_1 : Value) (H : Heap) : Prop :=
  W.call Tryz.prog (.func (.func 96) #[] #[]) #[point_0] H fun v1 H =>
  W.len v1 H fun v2 H =>
  W.loop (S := St [11]) (fun I1 s H => f51.l1 Q v2 s_1 v1 I1 s.1 H) ((.int .i64 0), ()) H
theorem f51.enter {Q : Post} {point_0 : Value} {s_1 : Value} {H : Heap} (h : f51.w Q point_0 s_1 H) : Runs Tryz.prog 51 #[point_0, s_1] H Q :=
  fn_enter (ann := [(3, [11])]) (by kernel_rfl) Tryz.func51 rfl (by kernel_rfl) h (by kernel_rfl)


def onlyL (n : Nat) (l : List Int) (s : Nat) : List Int := (List.range n).map fun i => if s.testBit i then l.getD i 0 else 0

theorem fnG51 {H0 : Heap} {Q : Post} {v : Value} {l : List Int} {n s : Nat} (hr : Has RS H0 [v] l) (hl : l.length = n) (hn : n ≤ 5) (hs : s < 9223372036854775808) (hQ : ∀ H' u, FreshG Rd.int 2 H0 u (onlyL n l s) H' → Q u H') : Runs Tryz.prog 51 #[v, .int .i64 (s : Nat)] H0 Q := by
  refine f51.enter (Wi.call (fn96 hr (by omega) fun H u g => ?_))
  have h := (Loc.start H0).addG g
  refine Wl.len h ?_
  rw [hl]
  have e0 : l = (List.range n).map fun i => if i < 0 ∧ s.testBit i = false then 0 else l.getD i 0 := by
    apply List.ext_getElem
    · simp [hl]
    · intro j h1 h2
      simp [List.getD_eq_getElem?_getD, List.getElem?_eq_getElem h1]
  have h : Ab.Loc H0 [.grow Rd.int 2 u ((List.range n).map fun i => if i < 0 ∧ s.testBit i = false then 0 else l.getD i 0)] H := by rw [← e0]; exact h
  refine W.for_rule n (fun x st H => st = (.int .i64 (x : Nat), ()) ∧ Ab.Loc H0 [.grow Rd.int 2 u ((List.range n).map fun i => if i < x ∧ s.testBit i = false then 0 else l.getD i 0)] H) ⟨rfl, h⟩ ?_
  rintro x st H J hx ⟨rfl, h⟩ hJ
  refine Wi.lssC (fun hlt => Wi.tru ?_) fun hge => Wi.fls ?_
  · have hxn : x < n := by omega
    have hI : I64 ((x : Int) + 1) := by unfold I64; omega
    refine Wi.call (fn97 hs (by omega) ?_)
    cases hb : s.testBit x with
    | false =>
      simp only [gw]
      refine Wl.setG h (by simpa using hxn) (by unfold I64; omega) fun H h => ?_
      unfold f51.j1
      refine Wi.add hI (hJ _ _ hxn ⟨rfl, ?_⟩)
      rw [range_set (g := fun i => if i < x + 1 ∧ s.testBit i = false then 0 else l.getD i 0) (by simp [hb]) (fun k _ hk => by
        by_cases g : k < x
        · simp [g, show k < x + 1 by omega]
        · simp [g, show ¬ k < x + 1 by omega])] at h
      exact h
    | true =>
      simp only [gw]
      unfold f51.j1
      refine Wi.add hI (hJ _ _ hxn ⟨rfl, ?_⟩)
      have e : ((List.range n).map fun i => if i < x ∧ s.testBit i = false then (0 : Int) else l.getD i 0) = (List.range n).map fun i => if i < x + 1 ∧ s.testBit i = false then 0 else l.getD i 0 := List.map_congr_left fun k _ => by
        by_cases g : k < x
        · simp [g, show k < x + 1 by omega]
        · by_cases g2 : k = x
          · subst g2; simp [hb]
          · simp [g, show ¬ k < x + 1 by omega]
      rw [← e]
      exact h
  · have : x = n := by omega
    subst this
    refine hQ _ _ ?_
    have e : onlyL x l s = (List.range x).map fun i => if i < x ∧ s.testBit i = false then 0 else l.getD i 0 := List.map_congr_left fun k hk => by
      have hk : k < x := by simpa using hk
      cases hb : s.testBit k <;> simp [hk]
    rw [e]
    exact h.retGG (i := 0) rfl

theorem fn51 {H0 : Heap} {Q : Post} {v : Value} {l : List Int} {n s : Nat} (hr : Has RS H0 [v] l) (hl : l.length = n) (hn : n ≤ 5) (hs : s < 9223372036854775808) (hQ : ∀ H' u, Fresh RS H0 [u] (onlyL n l s) H' → Q u H') : Runs Tryz.prog 51 #[v, .int .i64 (s : Nat)] H0 Q :=
  fnG51 hr hl hn hs fun _ _ f => hQ _ _ ((((Loc.start H0).addG f).asData (i := 0) rfl).ret (i := 0) rfl)

end Go.Proofs.YtdmgomeogedjgaaGreat
