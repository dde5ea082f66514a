/- The laws' helpers for lists of lists of fractions. No condition. -/
import Derived.Test.YtioleipoomgmhaaA5
import Derived.Test.YtioleipoomgmhaaA6
namespace Go.Proofs.Ytioleipoomgmhaa
open Go.Ab

/- loop.example/g01343/laws.eqFracSS -/
def f30.l1 (Q : Post) (a_0 : Value) (b_1 : Value) (I1 : St [5] → Heap → Prop) (i_5 : Value) (H : Heap) : Prop :=
  W.len a_0 H fun v4 H =>
  W.bin .lss i_5 v4 H fun v5 H =>
  W.cond v5 H
  (fun H => W.indexAddr 1 a_0 i_5 H fun v6 H =>
   W.get v6 H fun v7 H =>
   W.indexAddr 1 b_1 i_5 H fun v8 H =>
   W.get v8 H fun v9 H =>
   W.callQ Try.prog (.func (.func 25) #[] #[]) #[v7, v9] H fun v10 H =>
   W.un .not v10 H fun v11 H =>
   W.cond v11 H
   (fun H => Q (.bool false) H)
   (fun H => W.bin .add i_5 (.int .i64 1) H fun v12 H =>
    I1 (v12, ()) H))
  (fun H => Q (.bool true) H)
def f30.w (Q : Post) (a_0 : Value) (b_1 : Value) (H : Heap) : Prop :=
  W.len a_0 H fun v1 H =>
  W.len b_1 H fun v2 H =>
  W.bin .neq v1 v2 H fun v3 H =>
  W.cond v3 H
  (fun H => Q (.bool false) H)
  (fun H => W.loop (S := St [5]) (fun I1 s H => f30.l1 Q a_0 b_1 I1 s.1 H) ((.int .i64 0), ()) H)
theorem f30.enter {Q : Post} {a_0 : Value} {b_1 : Value} {H : Heap} (h : f30.w Q a_0 b_1 H) : Runs Try.prog 30 #[a_0, b_1] H Q :=
  fn_enter (ann := [(4, [5])]) (by kernel_rfl) Try.func30 rfl (by kernel_rfl) h (by kernel_rfl)

/- loop.example/g01343/laws.markFracSS -/
def f31.l1 (Q : Post) (a_0 : Value) (I1 : St [1, 5] → Heap → Prop) (k_1' : Value) (i_5 : Value) (H : Heap) : Prop :=
  W.len a_0 H fun v1 H =>
  W.bin .lss i_5 v1 H fun v2 H =>
  W.cond v2 H
  (fun H => W.indexAddr 1 a_0 i_5 H fun v3 H =>
   W.get v3 H fun v4 H =>
   W.call Try.prog (.func (.func 26) #[] #[]) #[v4, k_1'] H fun v5 H =>
   W.bin .add i_5 (.int .i64 1) H fun v6 H =>
   I1 (v5, v6, ()) H)
  (fun H => Q k_1' H)
def f31.w (Q : Post) (a_0 : Value) (k_1 : Value) (H : Heap) : Prop :=
  W.loop (S := St [1, 5]) (fun I1 s H => f31.l1 Q a_0 I1 s.1 s.2.1 H) (k_1, (.int .i64 0), ()) H
theorem f31.enter {Q : Post} {a_0 : Value} {k_1 : Value} {H : Heap} (h : f31.w Q a_0 k_1 H) : Runs Try.prog 31 #[a_0, k_1] H Q :=
  fn_enter (ann := [(2, [1, 5])]) (by kernel_rfl) Try.func31 rfl (by kernel_rfl) h (by kernel_rfl)

/- loop.example/g01343/laws.heldFracSS -/
def f32.l1 (Q : Post) (a_0 : Value) (I1 : St [1, 5] → Heap → Prop) (k_1' : Value) (i_5 : Value) (H : Heap) : Prop :=
  W.len a_0 H fun v1 H =>
  W.bin .lss i_5 v1 H fun v2 H =>
  W.cond v2 H
  (fun H => W.indexAddr 1 a_0 i_5 H fun v3 H =>
   W.get v3 H fun v4 H =>
   W.call Try.prog (.func (.func 27) #[] #[]) #[v4, k_1'] H fun v5 H =>
   W.bin .lss v5 (.int .i64 0) H fun v6 H =>
   W.cond v6 H
   (fun H => Q (.int .i64 (-1)) H)
   (fun H => W.bin .add i_5 (.int .i64 1) H fun v7 H =>
    I1 (v5, v7, ()) H))
  (fun H => Q k_1' H)
def f32.w (Q : Post) (a_0 : Value) (k_1 : Value) (H : Heap) : Prop :=
  W.loop (S := St [1, 5]) (fun I1 s H => f32.l1 Q a_0 I1 s.1 s.2.1 H) (k_1, (.int .i64 0), ()) H
theorem f32.enter {Q : Post} {a_0 : Value} {k_1 : Value} {H : Heap} (h : f32.w Q a_0 k_1 H) : Runs Try.prog 32 #[a_0, k_1] H Q :=
  fn_enter (ann := [(2, [1, 5])]) (by kernel_rfl) Try.func32 rfl (by kernel_rfl) h (by kernel_rfl)


abbrev RFSS : Rd (List (List Frac)) := Rd.slice RFS
theorem eq30 : EqC Try.prog 30 RFSS := EqC.slice rfl (CmpOK.callQ eq25) (n := 5) fun _ _ _ _ h => f30.enter h
abbrev mkFSS := mkl mkFS szFS
abbrev szFSS := szl szFS
theorem mark31 : MarkC Try.prog 31 RFSS mkFSS szFSS := MarkC.slice rfl (MarkE.call rfl mark26) (n1 := 1) (n2 := 5) fun _ _ _ _ h => f31.enter h
theorem held32 : HeldC Try.prog 32 RFSS mkFSS szFSS := HeldC.slice rfl (HeldE.call rfl held27) (n1 := 1) (n2 := 5) fun _ _ _ _ h => f32.enter h

end Go.Proofs.Ytioleipoomgmhaa
