/- Contracts of l01Own and slices.Clone. No condition. -/
import Derived.Test.YthfcodelpebjcaaA1
import Derived.Test.YthfcodelpebjcaaZabG5
namespace Go.Proofs.Ythfcodelpebjcaa
open Go.Ab

/- slices.Clone[[]int64,int64] -/
def f117.w (Q : Post) (s_0 : Value) (H : Heap) : Prop :=
  W.eqNilR .eql s_0 (.slice none 0 0) H fun v1 H =>
  W.cond v1 H
  (fun H => Q (.slice none 0 0) H)
  (fun H => W.lit 0 [(.int .i64 0)] 2 [] H fun v2 H =>
   W.append 1 2 v2 s_0 H fun v3 H =>
   Q v3 H)
theorem f117.enter {Q : Post} {s_0 : Value} {H : Heap} (h : f117.w Q s_0 H) : Runs Try.prog 117 #[s_0] H Q :=
  fn_enter (ann := []) (by kernel_rfl) Try.func117 rfl (by kernel_rfl) h (by kernel_rfl)


theorem fn117 {H0 : Heap} {Q : Post} {v : Value} {xs : List Int} (hr : Has RS H0 [v] xs) (hlen : xs.length ≤ 16777216) (hQ : ∀ H' u, FreshG Rd.int 2 H0 u xs H' → Q u H') : Runs Try.prog 117 #[v] H0 Q := by
  refine f117.enter (Wl.isNilH hr (fun e => Wi.tru ?_) (Wi.fls ?_))
  · subst e
    exact hQ _ _ ((((Loc.start H0).nilG Rd.int 2)).retGG (i := 0) rfl)
  · exact Wl.lit0 Rd.int rfl ((Loc.start H0).lent hr) fun H u h => Wl.appendH (i := 0) rfl h rfl h.rd (by simpa using hlen) fun H' v' h => hQ _ _ (h.retGG (i := 0) rfl)

end Go.Proofs.Ythfcodelpebjcaa
