/- The texts of the functions that the law FnExactNewDesk reaches, over the abstract heap; each is the function's own (by the kernel). No condition. -/
import Derived.Test.YtanpnljhopankaaProg
import Derived.Test.YtanpnljhopankaaZabCode
namespace Go.Proofs.Ytanpnljhopankaa
open Go.Ab

/- loop.example/g01343/laws.eqDesk -/
def f10.w (Q : Post) (a_0 : Value) (b_1 : Value) (H : Heap) : Prop :=
  W.box a_0 27 H fun v1 H =>
  W.box b_1 27 H fun v2 H =>
  W.fieldAddr 0 v1 H fun v3 H =>
  W.getN 2 v3 H fun v4 H =>
  W.fieldAddr 0 v2 H fun v5 H =>
  W.getN 2 v5 H fun v6 H =>
  W.call Try.prog (.func (.func 26) #[] #[]) #[v4, v6] H fun v7 H =>
  W.un .not v7 H fun v8 H =>
  W.cond v8 H
  (fun H => Q (.bool false) H)
  (fun H => W.fieldAddr 2 v1 H fun v9 H =>
   W.get v9 H fun v10 H =>
   W.fieldAddr 2 v2 H fun v11 H =>
   W.get v11 H fun v12 H =>
   W.bin .neq v10 v12 H fun v13 H =>
   W.cond v13 H
   (fun H => Q (.bool false) H)
   (fun H => Q (.bool true) H))
theorem f10.enter {Q : Post} {a_0 : Value} {b_1 : Value} {H : Heap} (h : f10.w Q a_0 b_1 H) : Runs Try.prog 10 #[a_0, b_1] H Q :=
  fn_enter (ann := []) (by kernel_rfl) Try.func10 rfl (by kernel_rfl) h (by kernel_rfl)
/- loop.example/g01343/laws.eqProblem -/
def f26.w (Q : Post) (a_0 : Value) (b_1 : Value) (H : Heap) : Prop :=
  W.box a_0 25 H fun v1 H =>
  W.box b_1 25 H fun v2 H =>
  W.fieldAddr 0 v1 H fun v3 H =>
  W.get v3 H fun v4 H =>
  W.fieldAddr 0 v2 H fun v5 H =>
  W.get v5 H fun v6 H =>
  W.call Try.prog (.func (.func 47) #[] #[]) #[v4, v6] H fun v7 H =>
  W.un .not v7 H fun v8 H =>
  W.cond v8 H
  (fun H => Q (.bool false) H)
  (fun H => W.fieldAddr 1 v1 H fun v9 H =>
   W.get v9 H fun v10 H =>
   W.fieldAddr 1 v2 H fun v11 H =>
   W.get v11 H fun v12 H =>
   W.call Try.prog (.func (.func 32) #[] #[]) #[v10, v12] H fun v13 H =>
   W.un .not v13 H fun v14 H =>
   W.cond v14 H
   (fun H => Q (.bool false) H)
   (fun H => Q (.bool true) H))
theorem f26.enter {Q : Post} {a_0 : Value} {b_1 : Value} {H : Heap} (h : f26.w Q a_0 b_1 H) : Runs Try.prog 26 #[a_0, b_1] H Q :=
  fn_enter (ann := []) (by kernel_rfl) Try.func26 rfl (by kernel_rfl) h (by kernel_rfl)
/- loop.example/g01343/laws.markDesk -/
def f11.w (Q : Post) (a_0 : Value) (k_1 : Value) (H : Heap) : Prop :=
  W.box a_0 27 H fun v1 H =>
  W.fieldAddr 0 v1 H fun v2 H =>
  W.getN 2 v2 H fun v3 H =>
  W.call Try.prog (.func (.func 27) #[] #[]) #[v3, k_1] H fun v4 H =>
  Q v4 H
theorem f11.enter {Q : Post} {a_0 : Value} {k_1 : Value} {H : Heap} (h : f11.w Q a_0 k_1 H) : Runs Try.prog 11 #[a_0, k_1] H Q :=
  fn_enter (ann := []) (by kernel_rfl) Try.func11 rfl (by kernel_rfl) h (by kernel_rfl)
/- loop.example/g01343/laws.markProblem -/
def f27.w (Q : Post) (a_0 : Value) (k_1 : Value) (H : Heap) : Prop :=
  W.box a_0 25 H fun v1 H =>
  W.fieldAddr 0 v1 H fun v2 H =>
  W.get v2 H fun v3 H =>
  W.call Try.prog (.func (.func 54) #[] #[]) #[v3, k_1] H fun v4 H =>
  W.fieldAddr 1 v1 H fun v5 H =>
  W.get v5 H fun v6 H =>
  W.call Try.prog (.func (.func 33) #[] #[]) #[v6, v4] H fun v7 H =>
  Q v7 H
theorem f27.enter {Q : Post} {a_0 : Value} {k_1 : Value} {H : Heap} (h : f27.w Q a_0 k_1 H) : Runs Try.prog 27 #[a_0, k_1] H Q :=
  fn_enter (ann := []) (by kernel_rfl) Try.func27 rfl (by kernel_rfl) h (by kernel_rfl)
/- loop.example/g01343/laws.heldDesk -/
def f12.w (Q : Post) (a_0 : Value) (k_1 : Value) (H : Heap) : Prop :=
  W.box a_0 27 H fun v1 H =>
  W.fieldAddr 0 v1 H fun v2 H =>
  W.getN 2 v2 H fun v3 H =>
  W.call Try.prog (.func (.func 28) #[] #[]) #[v3, k_1] H fun v4 H =>
  W.bin .lss v4 (.int .i64 0) H fun v5 H =>
  W.cond v5 H
  (fun H => Q (.int .i64 (-1)) H)
  (fun H => Q v4 H)
theorem f12.enter {Q : Post} {a_0 : Value} {k_1 : Value} {H : Heap} (h : f12.w Q a_0 k_1 H) : Runs Try.prog 12 #[a_0, k_1] H Q :=
  fn_enter (ann := []) (by kernel_rfl) Try.func12 rfl (by kernel_rfl) h (by kernel_rfl)
/- loop.example/g01343/laws.heldProblem -/
def f28.w (Q : Post) (a_0 : Value) (k_1 : Value) (H : Heap) : Prop :=
  W.box a_0 25 H fun v1 H =>
  W.fieldAddr 0 v1 H fun v2 H =>
  W.get v2 H fun v3 H =>
  W.call Try.prog (.func (.func 55) #[] #[]) #[v3, k_1] H fun v4 H =>
  W.bin .lss v4 (.int .i64 0) H fun v5 H =>
  W.cond v5 H
  (fun H => Q (.int .i64 (-1)) H)
  (fun H => W.fieldAddr 1 v1 H fun v6 H =>
   W.get v6 H fun v7 H =>
   W.call Try.prog (.func (.func 56) #[] #[]) #[v7, v4] H fun v8 H =>
   W.bin .lss v8 (.int .i64 0) H fun v9 H =>
   W.cond v9 H
   (fun H => Q (.int .i64 (-1)) H)
   (fun H => Q v8 H))
theorem f28.enter {Q : Post} {a_0 : Value} {k_1 : Value} {H : Heap} (h : f28.w Q a_0 k_1 H) : Runs Try.prog 28 #[a_0, k_1] H Q :=
  fn_enter (ann := []) (by kernel_rfl) Try.func28 rfl (by kernel_rfl) h (by kernel_rfl)
/- loop.example/g01343/spec.NewDesk -/
def f8.w (Q : Post) (H : Heap) : Prop :=
  W.new [(.slice none 0 0), (.slice none 0 0), (.int .i64 0)] 27 H fun v1 H =>
  W.call Try.prog (.func (.func 34) #[] #[]) #[] H fun v2 H =>
  W.putN 3 v1 v2 H fun _ H =>
  W.getN 3 v1 H fun v3 H => Q v3 H
theorem f8.enter {Q : Post} {H : Heap} (h : f8.w Q H) : Runs Try.prog 8 #[] H Q :=
  fn_enter (ann := []) (by kernel_rfl) Try.func8 rfl (by kernel_rfl) h (by kernel_rfl)
/- loop.example/g01343/impl.NewDesk -/
def f9.w (Q : Post) (H : Heap) : Prop :=
  W.new [(.slice none 0 0), (.slice none 0 0), (.int .i64 0)] 27 H fun v1 H =>
  W.lit 2 [(.int .i64 0)] 2 [(0, 1, (.int .i64 2)), (1, 1, (.int .i64 1))] H fun v2 H =>
  W.lit 2 [(.int .i64 0)] 2 [(0, 1, (.int .i64 1)), (1, 1, (.int .i64 2))] H fun v3 H =>
  W.lit 2 [(.slice none 0 0)] 23 [(0, 1, v2), (1, 1, v3)] H fun v4 H =>
  W.lit 2 [(.int .i64 0)] 2 [(0, 1, (.int .i64 (-5))), (1, 1, (.int .i64 (-6)))] H fun v5 H =>
  W.build [(.slice none 0 0), (.slice none 0 0)] [(0, 1, v4), (1, 1, v5)] H fun v6 H =>
  W.build [(.slice none 0 0), (.slice none 0 0), (.int .i64 0)] [(0, 2, v6)] H fun v7 H =>
  W.putN 3 v1 v7 H fun _ H =>
  W.getN 3 v1 H fun v8 H => Q v8 H
theorem f9.enter {Q : Post} {H : Heap} (h : f9.w Q H) : Runs Try.prog 9 #[] H Q :=
  fn_enter (ann := []) (by kernel_rfl) Try.func9 rfl (by kernel_rfl) h (by kernel_rfl)
/- loop.example/g01343/spec.l11New -/
def f34.w (Q : Post) (H : Heap) : Prop :=
  W.new [(.slice none 0 0), (.slice none 0 0), (.int .i64 0)] 27 H fun v1 H =>
  W.lit 2 [(.int .i64 0)] 2 [(0, 1, (.int .i64 2)), (1, 1, (.int .i64 1))] H fun v2 H =>
  W.lit 2 [(.int .i64 0)] 2 [(0, 1, (.int .i64 1)), (1, 1, (.int .i64 2))] H fun v3 H =>
  W.lit 2 [(.slice none 0 0)] 23 [(0, 1, v2), (1, 1, v3)] H fun v4 H =>
  W.lit 2 [(.int .i64 0)] 2 [(0, 1, (.int .i64 (-5))), (1, 1, (.int .i64 (-6)))] H fun v5 H =>
  W.build [(.slice none 0 0), (.slice none 0 0)] [(0, 1, v4), (1, 1, v5)] H fun v6 H =>
  W.build [(.slice none 0 0), (.slice none 0 0), (.int .i64 0)] [(0, 2, v6), (2, 1, (.int .i64 0))] H fun v7 H =>
  W.putN 3 v1 v7 H fun _ H =>
  W.getN 3 v1 H fun v8 H => Q v8 H
theorem f34.enter {Q : Post} {H : Heap} (h : f34.w Q H) : Runs Try.prog 34 #[] H Q :=
  fn_enter (ann := []) (by kernel_rfl) Try.func34 rfl (by kernel_rfl) h (by kernel_rfl)
/- loop.example/g01343/laws.eqInt64S -/
def f32.l1 (Q : Post) (a_0 : Value) (b_1 : Value) (I1 : St [5] → Heap → Prop) (i_5 : Value) (H : Heap) : Prop :=
  W.len a_0 H fun v4 H =>
  W.bin .lss i_5 v4 H fun v5 H =>
  W.cond v5 H
  (fun H => W.indexAddr 1 a_0 i_5 H fun v6 H =>
   W.get v6 H fun v7 H =>
   W.indexAddr 1 b_1 i_5 H fun v8 H =>
   W.get v8 H fun v9 H =>
   W.bin .neq v7 v9 H fun v10 H =>
   W.cond v10 H
   (fun H => Q (.bool false) H)
   (fun H => W.bin .add i_5 (.int .i64 1) H fun v11 H =>
    I1 (v11, ()) H))
  (fun H => Q (.bool true) H)
def f32.w (Q : Post) (a_0 : Value) (b_1 : Value) (H : Heap) : Prop :=
  W.len a_0 H fun v1 H =>
  W.len b_1 H fun v2 H =>
  W.bin .neq v1 v2 H fun v3 H =>
  W.cond v3 H
  (fun H => Q (.bool false) H)
  (fun H => W.loop (S := St [5]) (fun I1 s H => f32.l1 Q a_0 b_1 I1 s.1 H) ((.int .i64 0), ()) H)
theorem f32.enter {Q : Post} {a_0 : Value} {b_1 : Value} {H : Heap} (h : f32.w Q a_0 b_1 H) : Runs Try.prog 32 #[a_0, b_1] H Q :=
  fn_enter (ann := [(4, [5])]) (by kernel_rfl) Try.func32 rfl (by kernel_rfl) h (by kernel_rfl)
/- loop.example/g01343/laws.eqInt64SS -/
def f47.l1 (Q : Post) (a_0 : Value) (b_1 : Value) (I1 : St [5] → Heap → Prop) (i_5 : Value) (H : Heap) : Prop :=
  W.len a_0 H fun v4 H =>
  W.bin .lss i_5 v4 H fun v5 H =>
  W.cond v5 H
  (fun H => W.indexAddr 1 a_0 i_5 H fun v6 H =>
   W.get v6 H fun v7 H =>
   W.indexAddr 1 b_1 i_5 H fun v8 H =>
   W.get v8 H fun v9 H =>
   W.callQ Try.prog (.func (.func 32) #[] #[]) #[v7, v9] H fun v10 H =>
   W.un .not v10 H fun v11 H =>
   W.cond v11 H
   (fun H => Q (.bool false) H)
   (fun H => W.bin .add i_5 (.int .i64 1) H fun v12 H =>
    I1 (v12, ()) H))
  (fun H => Q (.bool true) H)
def f47.w (Q : Post) (a_0 : Value) (b_1 : Value) (H : Heap) : Prop :=
  W.len a_0 H fun v1 H =>
  W.len b_1 H fun v2 H =>
  W.bin .neq v1 v2 H fun v3 H =>
  W.cond v3 H
  (fun H => Q (.bool false) H)
  (fun H => W.loop (S := St [5]) (fun I1 s H => f47.l1 Q a_0 b_1 I1 s.1 H) ((.int .i64 0), ()) H)
theorem f47.enter {Q : Post} {a_0 : Value} {b_1 : Value} {H : Heap} (h : f47.w Q a_0 b_1 H) : Runs Try.prog 47 #[a_0, b_1] H Q :=
  fn_enter (ann := [(4, [5])]) (by kernel_rfl) Try.func47 rfl (by kernel_rfl) h (by kernel_rfl)
/- loop.example/g01343/laws.markInt64S -/
def f33.l1 (Q : Post) (a_0 : Value) (I1 : St [1, 5] → Heap → Prop) (k_1' : Value) (i_5 : Value) (H : Heap) : Prop :=
  W.len a_0 H fun v1 H =>
  W.bin .lss i_5 v1 H fun v2 H =>
  W.cond v2 H
  (fun H => W.indexAddr 1 a_0 i_5 H fun v3 H =>
   W.put v3 k_1' H fun _ H =>
   W.bin .add k_1' (.int .i64 1) H fun v4 H =>
   W.bin .add i_5 (.int .i64 1) H fun v5 H =>
   I1 (v4, v5, ()) H)
  (fun H => Q k_1' H)
def f33.w (Q : Post) (a_0 : Value) (k_1 : Value) (H : Heap) : Prop :=
  W.loop (S := St [1, 5]) (fun I1 s H => f33.l1 Q a_0 I1 s.1 s.2.1 H) (k_1, (.int .i64 0), ()) H
theorem f33.enter {Q : Post} {a_0 : Value} {k_1 : Value} {H : Heap} (h : f33.w Q a_0 k_1 H) : Runs Try.prog 33 #[a_0, k_1] H Q :=
  fn_enter (ann := [(2, [1, 5])]) (by kernel_rfl) Try.func33 rfl (by kernel_rfl) h (by kernel_rfl)
/- loop.example/g01343/laws.markInt64SS -/
def f54.l1 (Q : Post) (a_0 : Value) (I1 : St [1, 5] → Heap → Prop) (k_1' : Value) (i_5 : Value) (H : Heap) : Prop :=
  W.len a_0 H fun v1 H =>
  W.bin .lss i_5 v1 H fun v2 H =>
  W.cond v2 H
  (fun H => W.indexAddr 1 a_0 i_5 H fun v3 H =>
   W.get v3 H fun v4 H =>
   W.call Try.prog (.func (.func 33) #[] #[]) #[v4, k_1'] H fun v5 H =>
   W.bin .add i_5 (.int .i64 1) H fun v6 H =>
   I1 (v5, v6, ()) H)
  (fun H => Q k_1' H)
def f54.w (Q : Post) (a_0 : Value) (k_1 : Value) (H : Heap) : Prop :=
  W.loop (S := St [1, 5]) (fun I1 s H => f54.l1 Q a_0 I1 s.1 s.2.1 H) (k_1, (.int .i64 0), ()) H
theorem f54.enter {Q : Post} {a_0 : Value} {k_1 : Value} {H : Heap} (h : f54.w Q a_0 k_1 H) : Runs Try.prog 54 #[a_0, k_1] H Q :=
  fn_enter (ann := [(2, [1, 5])]) (by kernel_rfl) Try.func54 rfl (by kernel_rfl) h (by kernel_rfl)
/- loop.example/g01343/laws.heldInt64S -/
def f56.l1 (Q : Post) (a_0 : Value) (I1 : St [1, 5] → Heap → Prop) (k_1' : Value) (i_5 : Value) (H : Heap) : Prop :=
  W.len a_0 H fun v1 H =>
  W.bin .lss i_5 v1 H fun v2 H =>
  W.cond v2 H
  (fun H => W.indexAddr 1 a_0 i_5 H fun v3 H =>
   W.get v3 H fun v4 H =>
   W.bin .neq v4 k_1' H fun v5 H =>
   W.cond v5 H
   (fun H => Q (.int .i64 (-1)) H)
   (fun H => W.bin .add k_1' (.int .i64 1) H fun v6 H =>
    W.bin .add i_5 (.int .i64 1) H fun v7 H =>
    I1 (v6, v7, ()) H))
  (fun H => Q k_1' H)
def f56.w (Q : Post) (a_0 : Value) (k_1 : Value) (H : Heap) : Prop :=
  W.loop (S := St [1, 5]) (fun I1 s H => f56.l1 Q a_0 I1 s.1 s.2.1 H) (k_1, (.int .i64 0), ()) H
theorem f56.enter {Q : Post} {a_0 : Value} {k_1 : Value} {H : Heap} (h : f56.w Q a_0 k_1 H) : Runs Try.prog 56 #[a_0, k_1] H Q :=
  fn_enter (ann := [(2, [1, 5])]) (by kernel_rfl) Try.func56 rfl (by kernel_rfl) h (by kernel_rfl)
/- loop.example/g01343/laws.heldInt64SS -/
def f55.l1 (Q : Post) (a_0 : Value) (I1 : St [1, 5] → Heap → Prop) (k_1' : Value) (i_5 : Value) (H : Heap) : Prop :=
  W.len a_0 H fun v1 H =>
  W.bin .lss i_5 v1 H fun v2 H =>
  W.cond v2 H
  (fun H => W.indexAddr 1 a_0 i_5 H fun v3 H =>
   W.get v3 H fun v4 H =>
   W.call Try.prog (.func (.func 56) #[] #[]) #[v4, k_1'] H fun v5 H =>
   W.bin .lss v5 (.int .i64 0) H fun v6 H =>
   W.cond v6 H
   (fun H => Q (.int .i64 (-1)) H)
   (fun H => W.bin .add i_5 (.int .i64 1) H fun v7 H =>
    I1 (v5, v7, ()) H))
  (fun H => Q k_1' H)
def f55.w (Q : Post) (a_0 : Value) (k_1 : Value) (H : Heap) : Prop :=
  W.loop (S := St [1, 5]) (fun I1 s H => f55.l1 Q a_0 I1 s.1 s.2.1 H) (k_1, (.int .i64 0), ()) H
theorem f55.enter {Q : Post} {a_0 : Value} {k_1 : Value} {H : Heap} (h : f55.w Q a_0 k_1 H) : Runs Try.prog 55 #[a_0, k_1] H Q :=
  fn_enter (ann := [(2, [1, 5])]) (by kernel_rfl) Try.func55 rfl (by kernel_rfl) h (by kernel_rfl)
/- loop.example/g01343/laws.FnExactNewDesk -/
def f3.w (Q : Post) (H : Heap) : Prop :=
  W.call Try.prog (.func (.func 8) #[] #[]) #[] H fun v1 H =>
  W.new [(.slice none 0 0), (.slice none 0 0), (.int .i64 0)] 27 H fun v2 H =>
  W.putN 3 v2 v1 H fun _ H =>
  W.call Try.prog (.func (.func 9) #[] #[]) #[] H fun v3 H =>
  W.new [(.slice none 0 0), (.slice none 0 0), (.int .i64 0)] 27 H fun v4 H =>
  W.putN 3 v4 v3 H fun _ H =>
  W.getN 3 v4 H fun v5 H =>
  W.getN 3 v2 H fun v6 H =>
  W.call Try.prog (.func (.func 10) #[] #[]) #[v5, v6] H fun v7 H =>
  W.un .not v7 H fun v8 H =>
  W.cond v8 H
  (fun H => Q (.bool false) H)
  (fun H => W.getN 3 v4 H fun v9 H =>
   W.call Try.prog (.func (.func 11) #[] #[]) #[v9, (.int .i64 1)] H fun v10 H =>
   W.getN 3 v4 H fun v11 H =>
   W.call Try.prog (.func (.func 12) #[] #[]) #[v11, (.int .i64 1)] H fun v12 H =>
   W.bin .lss v12 (.int .i64 0) H fun v13 H =>
   W.cond v13 H
   (fun H => Q (.bool false) H)
   (fun H => W.bin .neq v12 v10 H fun v14 H =>
    W.cond v14 H
    (fun H => Q (.bool false) H)
    (fun H => W.call Try.prog (.func (.func 9) #[] #[]) #[] H fun v15 H =>
     W.new [(.slice none 0 0), (.slice none 0 0), (.int .i64 0)] 27 H fun v16 H =>
     W.putN 3 v16 v15 H fun _ H =>
     W.getN 3 v16 H fun v17 H =>
     W.getN 3 v2 H fun v18 H =>
     W.call Try.prog (.func (.func 10) #[] #[]) #[v17, v18] H fun v19 H =>
     W.un .not v19 H fun v20 H =>
     W.cond v20 H
     (fun H => Q (.bool false) H)
     (fun H => W.getN 3 v4 H fun v21 H =>
      W.call Try.prog (.func (.func 12) #[] #[]) #[v21, (.int .i64 1)] H fun v22 H =>
      W.bin .lss v22 (.int .i64 0) H fun v23 H =>
      W.cond v23 H
      (fun H => Q (.bool false) H)
      (fun H => W.bin .neq v22 v10 H fun v24 H =>
       W.cond v24 H
       (fun H => Q (.bool false) H)
       (fun H => Q (.bool true) H))))))
theorem f3.enter {Q : Post} {H : Heap} (h : f3.w Q H) : Runs Try.prog 3 #[] H Q :=
  fn_enter (ann := []) (by kernel_rfl) Try.func3 rfl (by kernel_rfl) h (by kernel_rfl)
end Go.Proofs.Ytanpnljhopankaa
