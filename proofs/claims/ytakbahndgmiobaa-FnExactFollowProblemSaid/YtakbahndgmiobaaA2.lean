/- The laws' helpers for problems. No condition. -/
import Derived.Test.YtakbahndgmiobaaA1
namespace Go.Proofs.Ytakbahndgmiobaa
open Go.Ab

/- loop.example/g01343/laws.eqProblem -/
def f12.w (Q : Post) (a_0 : Value) (b_1 : Value) (H : Heap) : Prop :=
  W.box a_0 31 H fun v1 H =>
  W.box b_1 31 H fun v2 H =>
  W.fieldAddr 0 v1 H fun v3 H =>
  W.get v3 H fun v4 H =>
  W.fieldAddr 0 v2 H fun v5 H =>
  W.get v5 H fun v6 H =>
  W.call Try.prog (.func (.func 39) #[] #[]) #[v4, v6] H fun v7 H =>
  W.un .not v7 H fun v8 H =>
  W.cond v8 H
  (fun H => Q (.bool false) H)
  (fun H => W.fieldAddr 1 v1 H fun v9 H =>
   W.get v9 H fun v10 H =>
   W.fieldAddr 1 v2 H fun v11 H =>
   W.get v11 H fun v12 H =>
   W.call Try.prog (.func (.func 13) #[] #[]) #[v10, v12] H fun v13 H =>
   W.un .not v13 H fun v14 H =>
   W.cond v14 H
   (fun H => Q (.bool false) H)
   (fun H => Q (.bool true) H))
theorem f12.enter {Q : Post} {a_0 : Value} {b_1 : Value} {H : Heap} (h : f12.w Q a_0 b_1 H) : Runs Try.prog 12 #[a_0, b_1] H Q :=
  fn_enter (ann := []) (by kernel_rfl) Try.func12 rfl (by kernel_rfl) h (by kernel_rfl)

/- loop.example/g01343/laws.markProblem -/
def f25.w (Q : Post) (a_0 : Value) (k_1 : Value) (H : Heap) : Prop :=
  W.box a_0 31 H fun v1 H =>
  W.fieldAddr 0 v1 H fun v2 H =>
  W.get v2 H fun v3 H =>
  W.call Try.prog (.func (.func 59) #[] #[]) #[v3, k_1] H fun v4 H =>
  W.fieldAddr 1 v1 H fun v5 H =>
  W.get v5 H fun v6 H =>
  W.call Try.prog (.func (.func 26) #[] #[]) #[v6, v4] H fun v7 H =>
  Q v7 H
theorem f25.enter {Q : Post} {a_0 : Value} {k_1 : Value} {H : Heap} (h : f25.w Q a_0 k_1 H) : Runs Try.prog 25 #[a_0, k_1] H Q :=
  fn_enter (ann := []) (by kernel_rfl) Try.func25 rfl (by kernel_rfl) h (by kernel_rfl)

/- loop.example/g01343/laws.szProblem -/
def f6.w (Q : Post) (a_0 : Value) (left_1 : Value) (H : Heap) : Prop :=
  W.box a_0 25 H fun v1 H =>
  W.fieldAddr 0 v1 H fun v2 H =>
  W.get v2 H fun v3 H =>
  W.call Try.prog (.func (.func 28) #[] #[]) #[v3, left_1] H fun v4 H =>
  W.bin .lss v4 (.int .i64 0) H fun v5 H =>
  W.cond v5 H
  (fun H => Q (.int .i64 (-1)) H)
  (fun H => W.fieldAddr 1 v1 H fun v6 H =>
   W.get v6 H fun v7 H =>
   W.call Try.prog (.func (.func 29) #[] #[]) #[v7, v4] H fun v8 H =>
   W.bin .lss v8 (.int .i64 0) H fun v9 H =>
   W.cond v9 H
   (fun H => Q (.int .i64 (-1)) H)
   (fun H => Q v8 H))
theorem f6.enter {Q : Post} {a_0 : Value} {left_1 : Value} {H : Heap} (h : f6.w Q a_0 left_1 H) : Runs Try.prog 6 #[a_0, left_1] H Q :=
  fn_enter (ann := []) (by kernel_rfl) Try.func6 rfl (by kernel_rfl) h (by kernel_rfl)

/- loop.example/g01343/laws.toProblem -/
def f8.w (Q : Post) (a_0 : Value) (H : Heap) : Prop :=
  W.box a_0 25 H fun v1 H =>
  W.new [(.slice none 0 0), (.slice none 0 0)] 31 H fun v2 H =>
  W.new [(.slice none 0 0), (.slice none 0 0)] 31 H fun v3 H =>
  W.fieldAddr 0 v1 H fun v4 H =>
  W.get v4 H fun v5 H =>
  W.call Try.prog (.func (.func 33) #[] #[]) #[v5] H fun v6 H =>
  W.fieldAddr 0 v3 H fun v7 H =>
  W.put v7 v6 H fun _ H =>
  W.fieldAddr 1 v1 H fun v8 H =>
  W.get v8 H fun v9 H =>
  W.call Try.prog (.func (.func 9) #[] #[]) #[v9] H fun v10 H =>
  W.fieldAddr 1 v3 H fun v11 H =>
  W.put v11 v10 H fun _ H =>
  W.getN 2 v3 H fun v12 H =>
  W.putN 2 v2 v12 H fun _ H =>
  W.getN 2 v2 H fun v13 H => Q v13 H
theorem f8.enter {Q : Post} {a_0 : Value} {H : Heap} (h : f8.w Q a_0 H) : Runs Try.prog 8 #[a_0] H Q :=
  fn_enter (ann := []) (by kernel_rfl) Try.func8 rfl (by kernel_rfl) h (by kernel_rfl)


abbrev RProblem : Rd (List (List Int) × List Int) := Rd.pair RSS RS
abbrev Prob := List (List Int) × List Int
theorem eq12 : EqA Try.prog 12 RProblem := EqA.struct (ty := 31) (.pair (o' := 1) (.one (n := 1) rfl (fun _ => rfl) (CmpV.one rfl (CmpOK.call eq39))) rfl (.one (n := 1) rfl (fun _ => rfl) (CmpV.one rfl (CmpOK.call eq13)))) fun _ _ _ _ h => f12.enter h
abbrev mkProblem := mkp mkSS szSS mkS
abbrev szProblem := szp szSS szS
theorem mark25 : MarkA Try.prog 25 RProblem mkProblem szProblem := MarkA.struct (ty := 31) (.pair (o' := 1) (.one (n := 1) rfl (fun _ => rfl) (MarkV.one rfl mark59)) rfl (.one (n := 1) rfl (fun _ => rfl) (MarkV.one rfl mark26))) fun _ _ _ _ h => f25.enter h
abbrev wProblem := szp wSS (List.length (α := Int))
theorem sz6 : SzA Try.prog 6 RProblem wProblem := SzA.struct (ty := 25) (.pair (o' := 1) (.one (n := 1) rfl (fun _ => rfl) (SzV.one rfl sz28)) rfl (.one (n := 1) rfl (fun _ => rfl) (SzV.one rfl sz29))) fun _ _ _ _ h => f6.enter h
theorem to8 : ToA Try.prog 8 RProblem wProblem := ToA.struct (n := 2) rfl (ty := 25) (ty' := 31) (zero := [.slice none 0 0, .slice none 0 0]) rfl
  (.pair (o' := 1) (.one (n := 1) rfl (fun _ => rfl) (ToV.one rfl to33)) rfl (.one (n := 1) rfl (fun _ => rfl) (ToV.one rfl to9))) fun _ _ _ h => f8.enter h

theorem prob_cells {H : Heap} {bs : List Nat} {cs : List Value} {p : Prob} (h : RProblem.rel H bs cs p) : ∃ u1 u2 b1 b2, cs = [u1, u2] ∧ bs = b1 ++ b2 ∧ RSS.rel H b1 [u1] p.1 ∧ RS.rel H b2 [u2] p.2 := by
  obtain ⟨b1, b2, c1, c2, hb, hc, h1, h2⟩ := h
  obtain ⟨u1, rfl⟩ := List.length_eq_one_iff.1 (RSS.len h1)
  obtain ⟨u2, rfl⟩ := List.length_eq_one_iff.1 (RS.len h2)
  exact ⟨u1, u2, b1, b2, hc, hb, h1, h2⟩

theorem hasProb {H : Heap} {cs : List Value} {p : Prob} (h : Has RProblem H cs p) : ∃ u1 u2, cs = [u1, u2] ∧ Has RSS H [u1] p.1 ∧ Has RS H [u2] p.2 := by
  obtain ⟨bs, h⟩ := h
  obtain ⟨u1, u2, b1, b2, h1, _, h3, h4⟩ := prob_cells h
  exact ⟨u1, u2, h1, ⟨_, h3⟩, ⟨_, h4⟩⟩

end Go.Proofs.Ytakbahndgmiobaa
