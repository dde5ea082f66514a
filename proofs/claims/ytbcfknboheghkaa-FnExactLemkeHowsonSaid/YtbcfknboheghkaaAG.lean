/- The laws' helpers for games. No condition. -/
import Derived.Test.YtbcfknboheghkaaA2
namespace Go.Proofs.Ytbcfknboheghkaa
open Go.Ab

/- loop.example/g01343/laws.eqGame -/
def f9.w (Q : Post) (a_0 : Value) (b_1 : Value) (H : Heap) : Prop :=
  W.box a_0 29 H fun v1 H =>
  W.box b_1 29 H fun v2 H =>
  W.fieldAddr 0 v1 H fun v3 H =>
  W.get v3 H fun v4 H =>
  W.fieldAddr 0 v2 H fun v5 H =>
  W.get v5 H fun v6 H =>
  W.call Try.prog (.func (.func 34) #[] #[]) #[v4, v6] H fun v7 H =>
  W.un .not v7 H fun v8 H =>
  W.cond v8 H
  (fun H => Q (.bool false) H)
  (fun H => W.fieldAddr 1 v1 H fun v9 H =>
   W.get v9 H fun v10 H =>
   W.fieldAddr 1 v2 H fun v11 H =>
   W.get v11 H fun v12 H =>
   W.call Try.prog (.func (.func 34) #[] #[]) #[v10, v12] H fun v13 H =>
   W.un .not v13 H fun v14 H =>
   W.cond v14 H
   (fun H => Q (.bool false) H)
   (fun H => Q (.bool true) H))
theorem f9.enter {Q : Post} {a_0 : Value} {b_1 : Value} {H : Heap} (h : f9.w Q a_0 b_1 H) : Runs Try.prog 9 #[a_0, b_1] H Q :=
  fn_enter (ann := []) (by kernel_rfl) Try.func9 rfl (by kernel_rfl) h (by kernel_rfl)

/- loop.example/g01343/laws.markGame -/
def f10.w (Q : Post) (a_0 : Value) (k_1 : Value) (H : Heap) : Prop :=
  W.box a_0 29 H fun v1 H =>
  W.fieldAddr 0 v1 H fun v2 H =>
  W.get v2 H fun v3 H =>
  W.call Try.prog (.func (.func 35) #[] #[]) #[v3, k_1] H fun v4 H =>
  W.fieldAddr 1 v1 H fun v5 H =>
  W.get v5 H fun v6 H =>
  W.call Try.prog (.func (.func 35) #[] #[]) #[v6, v4] H fun v7 H =>
  Q v7 H
theorem f10.enter {Q : Post} {a_0 : Value} {k_1 : Value} {H : Heap} (h : f10.w Q a_0 k_1 H) : Runs Try.prog 10 #[a_0, k_1] H Q :=
  fn_enter (ann := []) (by kernel_rfl) Try.func10 rfl (by kernel_rfl) h (by kernel_rfl)

/- loop.example/g01343/laws.szGame -/
def f4.w (Q : Post) (a_0 : Value) (left_1 : Value) (H : Heap) : Prop :=
  W.box a_0 24 H fun v1 H =>
  W.fieldAddr 0 v1 H fun v2 H =>
  W.get v2 H fun v3 H =>
  W.call Try.prog (.func (.func 13) #[] #[]) #[v3, left_1] H fun v4 H =>
  W.bin .lss v4 (.int .i64 0) H fun v5 H =>
  W.cond v5 H
  (fun H => Q (.int .i64 (-1)) H)
  (fun H => W.fieldAddr 1 v1 H fun v6 H =>
   W.get v6 H fun v7 H =>
   W.call Try.prog (.func (.func 13) #[] #[]) #[v7, v4] H fun v8 H =>
   W.bin .lss v8 (.int .i64 0) H fun v9 H =>
   W.cond v9 H
   (fun H => Q (.int .i64 (-1)) H)
   (fun H => Q v8 H))
theorem f4.enter {Q : Post} {a_0 : Value} {left_1 : Value} {H : Heap} (h : f4.w Q a_0 left_1 H) : Runs Try.prog 4 #[a_0, left_1] H Q :=
  fn_enter (ann := []) (by kernel_rfl) Try.func4 rfl (by kernel_rfl) h (by kernel_rfl)

/- loop.example/g01343/laws.toGame -/
def f6.w (Q : Post) (a_0 : Value) (H : Heap) : Prop :=
  W.box a_0 24 H fun v1 H =>
  W.new [(.slice none 0 0), (.slice none 0 0)] 29 H fun v2 H =>
  W.new [(.slice none 0 0), (.slice none 0 0)] 29 H fun v3 H =>
  W.fieldAddr 0 v1 H fun v4 H =>
  W.get v4 H fun v5 H =>
  W.call Try.prog (.func (.func 22) #[] #[]) #[v5] H fun v6 H =>
  W.fieldAddr 0 v3 H fun v7 H =>
  W.put v7 v6 H fun _ H =>
  W.fieldAddr 1 v1 H fun v8 H =>
  W.get v8 H fun v9 H =>
  W.call Try.prog (.func (.func 22) #[] #[]) #[v9] H fun v10 H =>
  W.fieldAddr 1 v3 H fun v11 H =>
  W.put v11 v10 H fun _ H =>
  W.getN 2 v3 H fun v12 H =>
  W.putN 2 v2 v12 H fun _ H =>
  W.getN 2 v2 H fun v13 H => Q v13 H
theorem f6.enter {Q : Post} {a_0 : Value} {H : Heap} (h : f6.w Q a_0 H) : Runs Try.prog 6 #[a_0] H Q :=
  fn_enter (ann := []) (by kernel_rfl) Try.func6 rfl (by kernel_rfl) h (by kernel_rfl)


abbrev RGame : Rd (List (List Int) × List (List Int)) := Rd.pair RSS RSS
abbrev Game := List (List Int) × List (List Int)
theorem eq9 : EqA Try.prog 9 RGame := EqA.struct (ty := 29) (.pair (o' := 1) (.one (n := 1) rfl (fun _ => rfl) (CmpV.one rfl (CmpOK.call eq34))) rfl (.one (n := 1) rfl (fun _ => rfl) (CmpV.one rfl (CmpOK.call eq34)))) fun _ _ _ _ h => f9.enter h
abbrev mkGame := mkp mkSS szSS mkSS
abbrev szGame := szp szSS szSS
theorem mark10 : MarkA Try.prog 10 RGame mkGame szGame := MarkA.struct (ty := 29) (.pair (o' := 1) (.one (n := 1) rfl (fun _ => rfl) (MarkV.one rfl mark35)) rfl (.one (n := 1) rfl (fun _ => rfl) (MarkV.one rfl mark35))) fun _ _ _ _ h => f10.enter h
abbrev wGame := szp wSS wSS
theorem sz4 : SzA Try.prog 4 RGame wGame := SzA.struct (ty := 24) (.pair (o' := 1) (.one (n := 1) rfl (fun _ => rfl) (SzV.one rfl sz13)) rfl (.one (n := 1) rfl (fun _ => rfl) (SzV.one rfl sz13))) fun _ _ _ _ h => f4.enter h
theorem to6 : ToA Try.prog 6 RGame wGame := ToA.struct (n := 2) rfl (ty := 24) (ty' := 29) (zero := [.slice none 0 0, .slice none 0 0]) rfl
  (.pair (o' := 1) (.one (n := 1) rfl (fun _ => rfl) (ToV.one rfl to22)) rfl (.one (n := 1) rfl (fun _ => rfl) (ToV.one rfl to22))) fun _ _ _ h => f6.enter h

theorem hasGame {H : Heap} {cs : List Value} {p : Game} (h : Has RGame H cs p) : ∃ u1 u2, cs = [u1, u2] ∧ Has RSS H [u1] p.1 ∧ Has RSS H [u2] p.2 := by
  obtain ⟨bs, b1, b2, c1, c2, hb, hc, h1, h2⟩ := h
  obtain ⟨u1, rfl⟩ := List.length_eq_one_iff.1 (RSS.len h1)
  obtain ⟨u2, rfl⟩ := List.length_eq_one_iff.1 (RSS.len h2)
  exact ⟨u1, u2, hc, ⟨_, h1⟩, ⟨_, h2⟩⟩

theorem wGame_le (p : Game) : szGame p ≤ wGame p := by
  have := szSS_le p.1
  have := szSS_le p.2
  simp only [szp]
  omega

end Go.Proofs.Ytbcfknboheghkaa
