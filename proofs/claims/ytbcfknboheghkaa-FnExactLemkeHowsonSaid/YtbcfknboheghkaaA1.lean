/- The laws' helpers for numbers, lists and rows: comparing, marking, weighing, copying. No condition. -/
import Derived.Test.YtbcfknboheghkaaProg
import Derived.Test.YtbcfknboheghkaaZabG3
import Derived.Test.YtbcfknboheghkaaZabG4
namespace Go.Proofs.Ytbcfknboheghkaa
open Go.Ab

/- loop.example/g01343/laws.eqInt64S -/
def f51.l1 (Q : Post) (a_0 : Value) (b_1 : Value) (I1 : St [5] → Heap → Prop) (i_5 : Value) (H : Heap) : Prop :=
  W.len a_0 H fun v4 H =>
  W.bin .lss i_5 v4 H fun v5 H =>
  W.cond v5 H
  (fun H => W.indexAddr 1 a_0 i_5 H fun v6 H =>
   W.get v6 H fun v7 H =>
   W.indexAddr 1 b_1 i_5 H fun v8 H =>
   W.get v8 H fun v9 H =>
   W.bin .neq v7 v9 H fun v10 H =>
   W.cond v10 H
   (fun H => Q (.bool false) H)
   (fun H => W.bin .add i_5 (.int .i64 1) H fun v11 H =>
    I1 (v11, ()) H))
  (fun H => Q (.bool true) H)
def f51.w (Q : Post) (a_0 : Value) (b_1 : Value) (H : Heap) : Prop :=
  W.len a_0 H fun v1 H =>
  W.len b_1 H fun v2 H =>
  W.bin .neq v1 v2 H fun v3 H =>
  W.cond v3 H
  (fun H => Q (.bool false) H)
  (fun H => W.loop (S := St [5]) (fun I1 s H => f51.l1 Q a_0 b_1 I1 s.1 H) ((.int .i64 0), ()) H)
theorem f51.enter {Q : Post} {a_0 : Value} {b_1 : Value} {H : Heap} (h : f51.w Q a_0 b_1 H) : Runs Try.prog 51 #[a_0, b_1] H Q :=
  fn_enter (ann := [(4, [5])]) (by kernel_rfl) Try.func51 rfl (by kernel_rfl) h (by kernel_rfl)

/- loop.example/g01343/laws.eqInt64SS -/
def f34.l1 (Q : Post) (a_0 : Value) (b_1 : Value) (I1 : St [5] → Heap → Prop) (i_5 : Value) (H : Heap) : Prop :=
  W.len a_0 H fun v4 H =>
  W.bin .lss i_5 v4 H fun v5 H =>
  W.cond v5 H
  (fun H => W.indexAddr 1 a_0 i_5 H fun v6 H =>
   W.get v6 H fun v7 H =>
   W.indexAddr 1 b_1 i_5 H fun v8 H =>
   W.get v8 H fun v9 H =>
   W.callQ Try.prog (.func (.func 51) #[] #[]) #[v7, v9] H fun v10 H =>
   W.un .not v10 H fun v11 H =>
   W.cond v11 H
   (fun H => Q (.bool false) H)
   (fun H => W.bin .add i_5 (.int .i64 1) H fun v12 H =>
    I1 (v12, ()) H))
  (fun H => Q (.bool true) H)
def f34.w (Q : Post) (a_0 : Value) (b_1 : Value) (H : Heap) : Prop :=
  W.len a_0 H fun v1 H =>
  W.len b_1 H fun v2 H =>
  W.bin .neq v1 v2 H fun v3 H =>
  W.cond v3 H
  (fun H => Q (.bool false) H)
  (fun H => W.loop (S := St [5]) (fun I1 s H => f34.l1 Q a_0 b_1 I1 s.1 H) ((.int .i64 0), ()) H)
theorem f34.enter {Q : Post} {a_0 : Value} {b_1 : Value} {H : Heap} (h : f34.w Q a_0 b_1 H) : Runs Try.prog 34 #[a_0, b_1] H Q :=
  fn_enter (ann := [(4, [5])]) (by kernel_rfl) Try.func34 rfl (by kernel_rfl) h (by kernel_rfl)

/- loop.example/g01343/laws.markInt64S -/
def f52.l1 (Q : Post) (a_0 : Value) (I1 : St [1, 5] → Heap → Prop) (k_1' : Value) (i_5 : Value) (H : Heap) : Prop :=
  W.len a_0 H fun v1 H =>
  W.bin .lss i_5 v1 H fun v2 H =>
  W.cond v2 H
  (fun H => W.indexAddr 1 a_0 i_5 H fun v3 H =>
   W.put v3 k_1' H fun _ H =>
   W.bin .add k_1' (.int .i64 1) H fun v4 H =>
   W.bin .add i_5 (.int .i64 1) H fun v5 H =>
   I1 (v4, v5, ()) H)
  (fun H => Q k_1' H)
def f52.w (Q : Post) (a_0 : Value) (k_1 : Value) (H : Heap) : Prop :=
  W.loop (S := St [1, 5]) (fun I1 s H => f52.l1 Q a_0 I1 s.1 s.2.1 H) (k_1, (.int .i64 0), ()) H
theorem f52.enter {Q : Post} {a_0 : Value} {k_1 : Value} {H : Heap} (h : f52.w Q a_0 k_1 H) : Runs Try.prog 52 #[a_0, k_1] H Q :=
  fn_enter (ann := [(2, [1, 5])]) (by kernel_rfl) Try.func52 rfl (by kernel_rfl) h (by kernel_rfl)

/- loop.example/g01343/laws.markInt64SS -/
def f35.l1 (Q : Post) (a_0 : Value) (I1 : St [1, 5] → Heap → Prop) (k_1' : Value) (i_5 : Value) (H : Heap) : Prop :=
  W.len a_0 H fun v1 H =>
  W.bin .lss i_5 v1 H fun v2 H =>
  W.cond v2 H
  (fun H => W.indexAddr 1 a_0 i_5 H fun v3 H =>
   W.get v3 H fun v4 H =>
   W.call Try.prog (.func (.func 52) #[] #[]) #[v4, k_1'] H fun v5 H =>
   W.bin .add i_5 (.int .i64 1) H fun v6 H =>
   I1 (v5, v6, ()) H)
  (fun H => Q k_1' H)
def f35.w (Q : Post) (a_0 : Value) (k_1 : Value) (H : Heap) : Prop :=
  W.loop (S := St [1, 5]) (fun I1 s H => f35.l1 Q a_0 I1 s.1 s.2.1 H) (k_1, (.int .i64 0), ()) H
theorem f35.enter {Q : Post} {a_0 : Value} {k_1 : Value} {H : Heap} (h : f35.w Q a_0 k_1 H) : Runs Try.prog 35 #[a_0, k_1] H Q :=
  fn_enter (ann := [(2, [1, 5])]) (by kernel_rfl) Try.func35 rfl (by kernel_rfl) h (by kernel_rfl)

/- loop.example/g01343/laws.szInt64S -/
def f36.w (Q : Post) (a_0 : Value) (left_1 : Value) (H : Heap) : Prop :=
  W.len a_0 H fun v1 H =>
  W.bin .sub left_1 v1 H fun v2 H =>
  W.bin .lss v2 (.int .i64 0) H fun v3 H =>
  W.cond v3 H
  (fun H => Q (.int .i64 (-1)) H)
  (fun H => Q v2 H)
theorem f36.enter {Q : Post} {a_0 : Value} {left_1 : Value} {H : Heap} (h : f36.w Q a_0 left_1 H) : Runs Try.prog 36 #[a_0, left_1] H Q :=
  fn_enter (ann := []) (by kernel_rfl) Try.func36 rfl (by kernel_rfl) h (by kernel_rfl)

/- loop.example/g01343/laws.szInt64SS -/
def f13.l1 (Q : Post) (a_0 : Value) (I1 : St [1, 5] → Heap → Prop) (left_1' : Value) (i_5 : Value) (H : Heap) : Prop :=
  W.len a_0 H fun v4 H =>
  W.bin .lss i_5 v4 H fun v5 H =>
  W.cond v5 H
  (fun H => W.indexAddr 1 a_0 i_5 H fun v6 H =>
   W.get v6 H fun v7 H =>
   W.call Try.prog (.func (.func 36) #[] #[]) #[v7, left_1'] H fun v8 H =>
   W.bin .lss v8 (.int .i64 0) H fun v9 H =>
   W.cond v9 H
   (fun H => Q (.int .i64 (-1)) H)
   (fun H => W.bin .add i_5 (.int .i64 1) H fun v10 H =>
    I1 (v8, v10, ()) H))
  (fun H => Q left_1' H)
def f13.w (Q : Post) (a_0 : Value) (left_1 : Value) (H : Heap) : Prop :=
  W.len a_0 H fun v1 H =>
  W.bin .sub left_1 v1 H fun v2 H =>
  W.bin .lss v2 (.int .i64 0) H fun v3 H =>
  W.cond v3 H
  (fun H => Q (.int .i64 (-1)) H)
  (fun H => W.loop (S := St [1, 5]) (fun I1 s H => f13.l1 Q a_0 I1 s.1 s.2.1 H) (v2, (.int .i64 0), ()) H)
theorem f13.enter {Q : Post} {a_0 : Value} {left_1 : Value} {H : Heap} (h : f13.w Q a_0 left_1 H) : Runs Try.prog 13 #[a_0, left_1] H Q :=
  fn_enter (ann := [(5, [1, 5])]) (by kernel_rfl) Try.func13 rfl (by kernel_rfl) h (by kernel_rfl)

/- loop.example/g01343/laws.toInt64S -/
def f41.l1 (Q : Post) (a_0 : Value) (v2 : Value) (I1 : St [4] → Heap → Prop) (i_4 : Value) (H : Heap) : Prop :=
  W.len a_0 H fun v3 H =>
  W.bin .lss i_4 v3 H fun v4 H =>
  W.cond v4 H
  (fun H => W.indexAddr 1 a_0 i_4 H fun v5 H =>
   W.get v5 H fun v6 H =>
   W.indexAddr 1 v2 i_4 H fun v7 H =>
   W.put v7 v6 H fun _ H =>
   W.bin .add i_4 (.int .i64 1) H fun v8 H =>
   I1 (v8, ()) H)
  (fun H => Q v2 H)
def f41.w (Q : Post) (a_0 : Value) (H : Heap) : Prop :=
  W.len a_0 H fun v1 H =>
  W.make [(.int .i64 0)] 2 v1 v1 H fun v2 H =>
  W.loop (S := St [4]) (fun I1 s H => f41.l1 Q a_0 v2 I1 s.1 H) ((.int .i64 0), ()) H
theorem f41.enter {Q : Post} {a_0 : Value} {H : Heap} (h : f41.w Q a_0 H) : Runs Try.prog 41 #[a_0] H Q :=
  fn_enter (ann := [(3, [4])]) (by kernel_rfl) Try.func41 rfl (by kernel_rfl) h (by kernel_rfl)

/- loop.example/g01343/laws.toInt64SS -/
def f22.l1 (Q : Post) (a_0 : Value) (v2 : Value) (I1 : St [4] → Heap → Prop) (i_4 : Value) (H : Heap) : Prop :=
  W.len a_0 H fun v3 H =>
  W.bin .lss i_4 v3 H fun v4 H =>
  W.cond v4 H
  (fun H => W.indexAddr 1 a_0 i_4 H fun v5 H =>
   W.get v5 H fun v6 H =>
   W.call Try.prog (.func (.func 41) #[] #[]) #[v6] H fun v7 H =>
   W.indexAddr 1 v2 i_4 H fun v8 H =>
   W.put v8 v7 H fun _ H =>
   W.bin .add i_4 (.int .i64 1) H fun v9 H =>
   I1 (v9, ()) H)
  (fun H => Q v2 H)
def f22.w (Q : Post) (a_0 : Value) (H : Heap) : Prop :=
  W.len a_0 H fun v1 H =>
  W.make [(.slice none 0 0)] 38 v1 v1 H fun v2 H =>
  W.loop (S := St [4]) (fun I1 s H => f22.l1 Q a_0 v2 I1 s.1 H) ((.int .i64 0), ()) H
theorem f22.enter {Q : Post} {a_0 : Value} {H : Heap} (h : f22.w Q a_0 H) : Runs Try.prog 22 #[a_0] H Q :=
  fn_enter (ann := [(3, [4])]) (by kernel_rfl) Try.func22 rfl (by kernel_rfl) h (by kernel_rfl)


abbrev RS : Rd (List Int) := Rd.slice Rd.int
abbrev RSS : Rd (List (List Int)) := Rd.slice RS
theorem eq51 : EqC Try.prog 51 RS := EqC.slice rfl CmpOK.int (n := 5) fun _ _ _ _ h => f51.enter h
theorem eq34 : EqC Try.prog 34 RSS := EqC.slice rfl (CmpOK.callQ eq51) (n := 5) fun _ _ _ _ h => f34.enter h

abbrev mkS := mkl (fun (_ : Int) k => k) (fun _ => 1)
abbrev szS := szl (fun (_ : Int) => 1)
abbrev mkSS := mkl mkS szS
abbrev szSS := szl szS
theorem mark52 : MarkC Try.prog 52 RS mkS szS := MarkC.slice rfl MarkE.int (n1 := 1) (n2 := 5) fun _ _ _ _ h => f52.enter h
theorem mark35 : MarkC Try.prog 35 RSS mkSS szSS := MarkC.slice rfl (MarkE.call rfl mark52) (n1 := 1) (n2 := 5) fun _ _ _ _ h => f35.enter h

theorem sz36 : SzC Try.prog 36 RS List.length := SzC.len fun _ _ _ _ h => f36.enter h
abbrev wSS : List (List Int) → Nat := wl List.length
theorem sz13 : SzC Try.prog 13 RSS wSS := SzC.slice rfl (SzV.one rfl sz36) (n1 := 1) (n2 := 5) fun _ _ _ _ h => f13.enter h
theorem to41 : ToC Try.prog 41 RS List.length := (ToC.slice rfl ToV.int (n := 4) (z := .int .i64 0) (ty := 2) fun _ _ _ h => f41.enter h).len
theorem to22 : ToC Try.prog 22 RSS wSS := ToC.slice rfl (ToV.one rfl to41) (n := 4) (z := .slice none 0 0) (ty := 38) fun _ _ _ h => f22.enter h

theorem szS_len (xs : List Int) : szS xs = xs.length := by
  induction xs with
  | nil => rfl
  | cons x xs ih => simp only [szl, ih, List.length_cons]; omega

theorem szSS_le (m : List (List Int)) : szSS m ≤ wSS m := by
  have e : szS = List.length := funext szS_len
  show szl szS m ≤ _
  rw [e]
  simp only [wl]
  omega

end Go.Proofs.Ytbcfknboheghkaa
