/- The laws' helper that marks programs. No condition. -/
import Derived.Test.YtmhbbkidedjefaaGreatP1
namespace Go.Proofs.YtmhbbkidedjefaaGreat
open Go.Ab

/- loop.example/g01343/laws.markProgram -/
def f11.w (Q : Post) (a_0 : Value) (k_1 : Value) (H : Heap) : Prop :=
  W.box a_0 32 H fun v1 H =>
  W.fieldAddr 0 v1 H fun v2 H =>
  W.get v2 H fun v3 H =>
  W.call Tryz.prog (.func (.func 38) #[] #[]) #[v3, k_1] H fun v4 H =>
  W.fieldAddr 1 v1 H fun v5 H =>
  W.get v5 H fun v6 H =>
  W.call Tryz.prog (.func (.func 39) #[] #[]) #[v6, v4] H fun v7 H =>
  W.fieldAddr 2 v1 H fun v8 H =>
  W.get v8 H fun v9 H =>
  W.call Tryz.prog (.func (.func 38) #[] #[]) #[v9, v7] H fun v10 H =>
  W.fieldAddr 3 v1 H fun v11 H =>
  W.get v11 H fun v12 H =>
  W.call Tryz.prog (.func (.func 39) #[] #[]) #[v12, v10] H fun v13 H =>
  Q v13 H
theorem f11.enter {Q : Post} {a_0 : Value} {k_1 : Value} {H : Heap} (h : f11.w Q a_0 k_1 H) : Runs Tryz.prog 11 #[a_0, k_1] H Q :=
  fn_enter (ann := []) (by kernel_rfl) Tryz.func11 rfl (by kernel_rfl) h (by kernel_rfl)

abbrev mkPrg := mkp mkSS szSS (mkp mkS szS (mkp mkSS szSS mkS))
abbrev szPrg := szp szSS (szp szS (szp szSS szS))
theorem mark11 : MarkA Tryz.prog 11 RPrg mkPrg szPrg := MarkA.struct (ty := 32) (.pair (o' := 1) (.one (n := 1) rfl (fun _ => rfl) (MarkV.one rfl mark38)) rfl
  (.pair (o' := 2) (.one (n := 1) rfl (fun _ => rfl) (MarkV.one rfl mark39)) rfl (.pair (o' := 3) (.one (n := 1) rfl (fun _ => rfl) (MarkV.one rfl mark38)) rfl
  (.one (n := 1) rfl (fun _ => rfl) (MarkV.one rfl mark39))))) fun _ _ _ _ h => f11.enter h

theorem wPrg_le (p : Prg) : szPrg p ≤ wPrg p := by
  have := szSS_le p.1
  have := szSS_le p.2.2.1
  simp only [szp, szS_len]
  omega

end Go.Proofs.YtmhbbkidedjefaaGreat
