/- The laws' helpers for programs: marks. No condition. -/
import Derived.Test.YtioleipoomgmhaaA3
namespace Go.Proofs.Ytioleipoomgmhaa
open Go.Ab

/- loop.example/g01343/laws.markProgram -/
def f21.w (Q : Post) (a_0 : Value) (k_1 : Value) (H : Heap) : Prop :=
  W.box a_0 41 H fun v1 H =>
  W.fieldAddr 0 v1 H fun v2 H =>
  W.get v2 H fun v3 H =>
  W.call Try.prog (.func (.func 41) #[] #[]) #[v3, k_1] H fun v4 H =>
  W.fieldAddr 1 v1 H fun v5 H =>
  W.get v5 H fun v6 H =>
  W.call Try.prog (.func (.func 42) #[] #[]) #[v6, v4] H fun v7 H =>
  W.fieldAddr 2 v1 H fun v8 H =>
  W.get v8 H fun v9 H =>
  W.call Try.prog (.func (.func 41) #[] #[]) #[v9, v7] H fun v10 H =>
  W.fieldAddr 3 v1 H fun v11 H =>
  W.get v11 H fun v12 H =>
  W.call Try.prog (.func (.func 42) #[] #[]) #[v12, v10] H fun v13 H =>
  Q v13 H
theorem f21.enter {Q : Post} {a_0 : Value} {k_1 : Value} {H : Heap} (h : f21.w Q a_0 k_1 H) : Runs Try.prog 21 #[a_0, k_1] H Q :=
  fn_enter (ann := []) (by kernel_rfl) Try.func21 rfl (by kernel_rfl) h (by kernel_rfl)

/- loop.example/g01343/laws.heldProgram -/
def f22.w (Q : Post) (a_0 : Value) (k_1 : Value) (H : Heap) : Prop :=
  W.box a_0 41 H fun v1 H =>
  W.fieldAddr 0 v1 H fun v2 H =>
  W.get v2 H fun v3 H =>
  W.call Try.prog (.func (.func 43) #[] #[]) #[v3, k_1] H fun v4 H =>
  W.bin .lss v4 (.int .i64 0) H fun v5 H =>
  W.cond v5 H
  (fun H => Q (.int .i64 (-1)) H)
  (fun H => W.fieldAddr 1 v1 H fun v6 H =>
   W.get v6 H fun v7 H =>
   W.call Try.prog (.func (.func 44) #[] #[]) #[v7, v4] H fun v8 H =>
   W.bin .lss v8 (.int .i64 0) H fun v9 H =>
   W.cond v9 H
   (fun H => Q (.int .i64 (-1)) H)
   (fun H => W.fieldAddr 2 v1 H fun v10 H =>
    W.get v10 H fun v11 H =>
    W.call Try.prog (.func (.func 43) #[] #[]) #[v11, v8] H fun v12 H =>
    W.bin .lss v12 (.int .i64 0) H fun v13 H =>
    W.cond v13 H
    (fun H => Q (.int .i64 (-1)) H)
    (fun H => W.fieldAddr 3 v1 H fun v14 H =>
     W.get v14 H fun v15 H =>
     W.call Try.prog (.func (.func 44) #[] #[]) #[v15, v12] H fun v16 H =>
     W.bin .lss v16 (.int .i64 0) H fun v17 H =>
     W.cond v17 H
     (fun H => Q (.int .i64 (-1)) H)
     (fun H => Q v16 H))))
theorem f22.enter {Q : Post} {a_0 : Value} {k_1 : Value} {H : Heap} (h : f22.w Q a_0 k_1 H) : Runs Try.prog 22 #[a_0, k_1] H Q :=
  fn_enter (ann := []) (by kernel_rfl) Try.func22 rfl (by kernel_rfl) h (by kernel_rfl)


abbrev mkPrg := mkp mkSS szSS (mkp mkS szS (mkp mkSS szSS mkS))
abbrev szPrg := szp szSS (szp szS (szp szSS szS))
theorem mark21 : MarkA Try.prog 21 RPrg mkPrg szPrg := MarkA.struct (ty := 41) (.pair (o' := 1) (.one (n := 1) rfl (fun _ => rfl) (MarkV.one rfl mark41)) rfl
  (.pair (o' := 2) (.one (n := 1) rfl (fun _ => rfl) (MarkV.one rfl mark42)) rfl (.pair (o' := 3) (.one (n := 1) rfl (fun _ => rfl) (MarkV.one rfl mark41)) rfl
  (.one (n := 1) rfl (fun _ => rfl) (MarkV.one rfl mark42))))) fun _ _ _ _ h => f21.enter h
theorem held22 : HeldA Try.prog 22 RPrg mkPrg szPrg := HeldA.struct (ty := 41) (.pair (o' := 1) (.one (n := 1) rfl (fun _ => rfl) (HeldV.one rfl held43)) rfl
  (.pair (o' := 2) (.one (n := 1) rfl (fun _ => rfl) (HeldV.one rfl held44)) rfl (.pair (o' := 3) (.one (n := 1) rfl (fun _ => rfl) (HeldV.one rfl held43)) rfl
  (.one (n := 1) rfl (fun _ => rfl) (HeldV.one rfl held44))))) fun _ _ _ _ h => f22.enter h

theorem wPrg_le (p : Prg) : szPrg p ≤ wPrg p := by
  have := szSS_le p.1
  have := szSS_le p.2.2.1
  simp only [szp, szS_len]
  omega

theorem szPrg_of {p : Prg} (h : szSS p.1 + szS p.2.1 + szSS p.2.2.1 + szS p.2.2.2 ≤ 1048576) : szPrg p ≤ 1048576 := by
  simp only [szp]
  omega

end Go.Proofs.Ytioleipoomgmhaa
