/- The contract of l01Own. No condition. -/
import Derived.Test.YtbcfknboheghkaaA1
import Derived.Test.YtbcfknboheghkaaZabG5
namespace Go.Proofs.Ytbcfknboheghkaa
open Go.Ab

/- loop.example/g01343/spec.l01Own -/
def f38.w (Q : Post) (list_0 : Value) (H : Heap) : Prop :=
  W.lit 0 [(.int .i64 0)] 2 [] H fun v1 H =>
  W.append 1 2 v1 list_0 H fun v2 H =>
  Q v2 H
theorem f38.enter {Q : Post} {list_0 : Value} {H : Heap} (h : f38.w Q list_0 H) : Runs Try.prog 38 #[list_0] H Q :=
  fn_enter (ann := []) (by kernel_rfl) Try.func38 rfl (by kernel_rfl) h (by kernel_rfl)


theorem fn38 {H0 : Heap} {Q : Post} {v : Value} {xs : List Int} (hr : Has RS H0 [v] xs) (hlen : xs.length ≤ 16777216) (hQ : ∀ H' u, FreshG Rd.int 2 H0 u xs H' → Q u H') : Runs Try.prog 38 #[v] H0 Q :=
  f38.enter (Wl.lit0 Rd.int rfl ((Loc.start H0).lent hr) fun H u h => Wl.appendH (i := 0) rfl h rfl h.rd (by simpa using hlen) fun H' v' h => hQ _ _ (h.retGG (i := 0) rfl))

end Go.Proofs.Ytbcfknboheghkaa
