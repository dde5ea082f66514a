/- The laws' helpers for programs: marks. No condition. -/
import Derived.Test.YtccppfpjiaafaaaA3
namespace Go.Proofs.Ytccppfpjiaafaaa
open Go.Ab

/- loop.example/g01343/laws.markProgram -/
def f34.w (Q : Post) (a_0 : Value) (k_1 : Value) (H : Heap) : Prop :=
  W.box a_0 28 H fun v1 H =>
  W.fieldAddr 0 v1 H fun v2 H =>
  W.get v2 H fun v3 H =>
  W.call Try.prog (.func (.func 61) #[] #[]) #[v3, k_1] H fun v4 H =>
  W.fieldAddr 1 v1 H fun v5 H =>
  W.get v5 H fun v6 H =>
  W.call Try.prog (.func (.func 24) #[] #[]) #[v6, v4] H fun v7 H =>
  W.fieldAddr 2 v1 H fun v8 H =>
  W.get v8 H fun v9 H =>
  W.call Try.prog (.func (.func 61) #[] #[]) #[v9, v7] H fun v10 H =>
  W.fieldAddr 3 v1 H fun v11 H =>
  W.get v11 H fun v12 H =>
  W.call Try.prog (.func (.func 24) #[] #[]) #[v12, v10] H fun v13 H =>
  Q v13 H
theorem f34.enter {Q : Post} {a_0 : Value} {k_1 : Value} {H : Heap} (h : f34.w Q a_0 k_1 H) : Runs Try.prog 34 #[a_0, k_1] H Q :=
  fn_enter (ann := []) (by kernel_rfl) Try.func34 rfl (by kernel_rfl) h (by kernel_rfl)

/- loop.example/g01343/laws.heldProgram -/
def f37.w (Q : Post) (a_0 : Value) (k_1 : Value) (H : Heap) : Prop :=
  W.box a_0 28 H fun v1 H =>
  W.fieldAddr 0 v1 H fun v2 H =>
  W.get v2 H fun v3 H =>
  W.call Try.prog (.func (.func 62) #[] #[]) #[v3, k_1] H fun v4 H =>
  W.bin .lss v4 (.int .i64 0) H fun v5 H =>
  W.cond v5 H
  (fun H => Q (.int .i64 (-1)) H)
  (fun H => W.fieldAddr 1 v1 H fun v6 H =>
   W.get v6 H fun v7 H =>
   W.call Try.prog (.func (.func 63) #[] #[]) #[v7, v4] H fun v8 H =>
   W.bin .lss v8 (.int .i64 0) H fun v9 H =>
   W.cond v9 H
   (fun H => Q (.int .i64 (-1)) H)
   (fun H => W.fieldAddr 2 v1 H fun v10 H =>
    W.get v10 H fun v11 H =>
    W.call Try.prog (.func (.func 62) #[] #[]) #[v11, v8] H fun v12 H =>
    W.bin .lss v12 (.int .i64 0) H fun v13 H =>
    W.cond v13 H
    (fun H => Q (.int .i64 (-1)) H)
    (fun H => W.fieldAddr 3 v1 H fun v14 H =>
     W.get v14 H fun v15 H =>
     W.call Try.prog (.func (.func 63) #[] #[]) #[v15, v12] H fun v16 H =>
     W.bin .lss v16 (.int .i64 0) H fun v17 H =>
     W.cond v17 H
     (fun H => Q (.int .i64 (-1)) H)
     (fun H => Q v16 H))))
theorem f37.enter {Q : Post} {a_0 : Value} {k_1 : Value} {H : Heap} (h : f37.w Q a_0 k_1 H) : Runs Try.prog 37 #[a_0, k_1] H Q :=
  fn_enter (ann := []) (by kernel_rfl) Try.func37 rfl (by kernel_rfl) h (by kernel_rfl)


abbrev mkPrg := mkp mkSS szSS (mkp mkS szS (mkp mkSS szSS mkS))
abbrev szPrg := szp szSS (szp szS (szp szSS szS))
theorem mark34 : MarkA Try.prog 34 RPrg mkPrg szPrg := MarkA.struct (ty := 28) (.pair (o' := 1) (.one (n := 1) rfl (fun _ => rfl) (MarkV.one rfl mark61)) rfl
  (.pair (o' := 2) (.one (n := 1) rfl (fun _ => rfl) (MarkV.one rfl mark24)) rfl (.pair (o' := 3) (.one (n := 1) rfl (fun _ => rfl) (MarkV.one rfl mark61)) rfl
  (.one (n := 1) rfl (fun _ => rfl) (MarkV.one rfl mark24))))) fun _ _ _ _ h => f34.enter h
theorem held37 : HeldA Try.prog 37 RPrg mkPrg szPrg := HeldA.struct (ty := 28) (.pair (o' := 1) (.one (n := 1) rfl (fun _ => rfl) (HeldV.one rfl held62)) rfl
  (.pair (o' := 2) (.one (n := 1) rfl (fun _ => rfl) (HeldV.one rfl held63)) rfl (.pair (o' := 3) (.one (n := 1) rfl (fun _ => rfl) (HeldV.one rfl held62)) rfl
  (.one (n := 1) rfl (fun _ => rfl) (HeldV.one rfl held63))))) fun _ _ _ _ h => f37.enter h

theorem wPrg_le (p : Prg) : szPrg p ≤ wPrg p := by
  have := szSS_le p.1
  have := szSS_le p.2.2.1
  simp only [szp, szS_len]
  omega

theorem szPrg_of {p : Prg} (h : szSS p.1 + szS p.2.1 + szSS p.2.2.1 + szS p.2.2.2 ≤ 1048576) : szPrg p ≤ 1048576 := by
  simp only [szp]
  omega

end Go.Proofs.Ytccppfpjiaafaaa
