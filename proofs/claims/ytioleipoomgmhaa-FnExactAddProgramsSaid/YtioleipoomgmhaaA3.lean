/- The laws' helpers for programs. No condition. -/
import Derived.Test.YtioleipoomgmhaaA1
namespace Go.Proofs.Ytioleipoomgmhaa
open Go.Ab

/- loop.example/g01343/laws.eqProgram -/
def f20.w (Q : Post) (a_0 : Value) (b_1 : Value) (H : Heap) : Prop :=
  W.box a_0 41 H fun v1 H =>
  W.box b_1 41 H fun v2 H =>
  W.fieldAddr 0 v1 H fun v3 H =>
  W.get v3 H fun v4 H =>
  W.fieldAddr 0 v2 H fun v5 H =>
  W.get v5 H fun v6 H =>
  W.call Try.prog (.func (.func 39) #[] #[]) #[v4, v6] H fun v7 H =>
  W.un .not v7 H fun v8 H =>
  W.cond v8 H
  (fun H => Q (.bool false) H)
  (fun H => W.fieldAddr 1 v1 H fun v9 H =>
   W.get v9 H fun v10 H =>
   W.fieldAddr 1 v2 H fun v11 H =>
   W.get v11 H fun v12 H =>
   W.call Try.prog (.func (.func 40) #[] #[]) #[v10, v12] H fun v13 H =>
   W.un .not v13 H fun v14 H =>
   W.cond v14 H
   (fun H => Q (.bool false) H)
   (fun H => W.fieldAddr 2 v1 H fun v15 H =>
    W.get v15 H fun v16 H =>
    W.fieldAddr 2 v2 H fun v17 H =>
    W.get v17 H fun v18 H =>
    W.call Try.prog (.func (.func 39) #[] #[]) #[v16, v18] H fun v19 H =>
    W.un .not v19 H fun v20 H =>
    W.cond v20 H
    (fun H => Q (.bool false) H)
    (fun H => W.fieldAddr 3 v1 H fun v21 H =>
     W.get v21 H fun v22 H =>
     W.fieldAddr 3 v2 H fun v23 H =>
     W.get v23 H fun v24 H =>
     W.call Try.prog (.func (.func 40) #[] #[]) #[v22, v24] H fun v25 H =>
     W.un .not v25 H fun v26 H =>
     W.cond v26 H
     (fun H => Q (.bool false) H)
     (fun H => Q (.bool true) H))))
theorem f20.enter {Q : Post} {a_0 : Value} {b_1 : Value} {H : Heap} (h : f20.w Q a_0 b_1 H) : Runs Try.prog 20 #[a_0, b_1] H Q :=
  fn_enter (ann := []) (by kernel_rfl) Try.func20 rfl (by kernel_rfl) h (by kernel_rfl)

/- loop.example/g01343/laws.szProgram -/
def f16.w (Q : Post) (a_0 : Value) (left_1 : Value) (H : Heap) : Prop :=
  W.box a_0 39 H fun v1 H =>
  W.fieldAddr 0 v1 H fun v2 H =>
  W.get v2 H fun v3 H =>
  W.call Try.prog (.func (.func 33) #[] #[]) #[v3, left_1] H fun v4 H =>
  W.bin .lss v4 (.int .i64 0) H fun v5 H =>
  W.cond v5 H
  (fun H => Q (.int .i64 (-1)) H)
  (fun H => W.fieldAddr 1 v1 H fun v6 H =>
   W.get v6 H fun v7 H =>
   W.call Try.prog (.func (.func 45) #[] #[]) #[v7, v4] H fun v8 H =>
   W.bin .lss v8 (.int .i64 0) H fun v9 H =>
   W.cond v9 H
   (fun H => Q (.int .i64 (-1)) H)
   (fun H => W.fieldAddr 2 v1 H fun v10 H =>
    W.get v10 H fun v11 H =>
    W.call Try.prog (.func (.func 33) #[] #[]) #[v11, v8] H fun v12 H =>
    W.bin .lss v12 (.int .i64 0) H fun v13 H =>
    W.cond v13 H
    (fun H => Q (.int .i64 (-1)) H)
    (fun H => W.fieldAddr 3 v1 H fun v14 H =>
     W.get v14 H fun v15 H =>
     W.call Try.prog (.func (.func 45) #[] #[]) #[v15, v12] H fun v16 H =>
     W.bin .lss v16 (.int .i64 0) H fun v17 H =>
     W.cond v17 H
     (fun H => Q (.int .i64 (-1)) H)
     (fun H => Q v16 H))))
theorem f16.enter {Q : Post} {a_0 : Value} {left_1 : Value} {H : Heap} (h : f16.w Q a_0 left_1 H) : Runs Try.prog 16 #[a_0, left_1] H Q :=
  fn_enter (ann := []) (by kernel_rfl) Try.func16 rfl (by kernel_rfl) h (by kernel_rfl)

/- loop.example/g01343/laws.toProgram -/
def f18.w (Q : Post) (a_0 : Value) (H : Heap) : Prop :=
  W.box a_0 39 H fun v1 H =>
  W.new [(.slice none 0 0), (.slice none 0 0), (.slice none 0 0), (.slice none 0 0)] 41 H fun v2 H =>
  W.new [(.slice none 0 0), (.slice none 0 0), (.slice none 0 0), (.slice none 0 0)] 41 H fun v3 H =>
  W.fieldAddr 0 v1 H fun v4 H =>
  W.get v4 H fun v5 H =>
  W.call Try.prog (.func (.func 36) #[] #[]) #[v5] H fun v6 H =>
  W.fieldAddr 0 v3 H fun v7 H =>
  W.put v7 v6 H fun _ H =>
  W.fieldAddr 1 v1 H fun v8 H =>
  W.get v8 H fun v9 H =>
  W.call Try.prog (.func (.func 49) #[] #[]) #[v9] H fun v10 H =>
  W.fieldAddr 1 v3 H fun v11 H =>
  W.put v11 v10 H fun _ H =>
  W.fieldAddr 2 v1 H fun v12 H =>
  W.get v12 H fun v13 H =>
  W.call Try.prog (.func (.func 36) #[] #[]) #[v13] H fun v14 H =>
  W.fieldAddr 2 v3 H fun v15 H =>
  W.put v15 v14 H fun _ H =>
  W.fieldAddr 3 v1 H fun v16 H =>
  W.get v16 H fun v17 H =>
  W.call Try.prog (.func (.func 49) #[] #[]) #[v17] H fun v18 H =>
  W.fieldAddr 3 v3 H fun v19 H =>
  W.put v19 v18 H fun _ H =>
  W.getN 4 v3 H fun v20 H =>
  W.putN 4 v2 v20 H fun _ H =>
  W.getN 4 v2 H fun v21 H => Q v21 H
theorem f18.enter {Q : Post} {a_0 : Value} {H : Heap} (h : f18.w Q a_0 H) : Runs Try.prog 18 #[a_0] H Q :=
  fn_enter (ann := []) (by kernel_rfl) Try.func18 rfl (by kernel_rfl) h (by kernel_rfl)


abbrev Prg := List (List Int) × List Int × List (List Int) × List Int
abbrev RPrg : Rd Prg := Rd.pair RSS (Rd.pair RS (Rd.pair RSS RS))

theorem eq20 : EqA Try.prog 20 RPrg := EqA.struct (ty := 41) (.pair (o' := 1) (.one (n := 1) rfl (fun _ => rfl) (CmpV.one rfl (CmpOK.call eq39))) rfl
  (.pair (o' := 2) (.one (n := 1) rfl (fun _ => rfl) (CmpV.one rfl (CmpOK.call eq40))) rfl (.pair (o' := 3) (.one (n := 1) rfl (fun _ => rfl) (CmpV.one rfl (CmpOK.call eq39))) rfl
  (.one (n := 1) rfl (fun _ => rfl) (CmpV.one rfl (CmpOK.call eq40)))))) fun _ _ _ _ h => f20.enter h
abbrev wPrg := szp wSS (szp (List.length (α := Int)) (szp wSS (List.length (α := Int))))
theorem sz16 : SzA Try.prog 16 RPrg wPrg := SzA.struct (ty := 39) (.pair (o' := 1) (.one (n := 1) rfl (fun _ => rfl) (SzV.one rfl sz33)) rfl
  (.pair (o' := 2) (.one (n := 1) rfl (fun _ => rfl) (SzV.one rfl sz45)) rfl (.pair (o' := 3) (.one (n := 1) rfl (fun _ => rfl) (SzV.one rfl sz33)) rfl
  (.one (n := 1) rfl (fun _ => rfl) (SzV.one rfl sz45))))) fun _ _ _ _ h => f16.enter h
theorem to18 : ToA Try.prog 18 RPrg wPrg := ToA.struct (n := 4) rfl (ty := 39) (ty' := 41) (zero := [.slice none 0 0, .slice none 0 0, .slice none 0 0, .slice none 0 0]) rfl
  (.pair (o' := 1) (.one (n := 1) rfl (fun _ => rfl) (ToV.one rfl to36)) rfl (.pair (o' := 2) (.one (n := 1) rfl (fun _ => rfl) (ToV.one rfl to49)) rfl
  (.pair (o' := 3) (.one (n := 1) rfl (fun _ => rfl) (ToV.one rfl to36)) rfl (.one (n := 1) rfl (fun _ => rfl) (ToV.one rfl to49))))) fun _ _ _ h => f18.enter h

theorem hasPrg {H : Heap} {cs : List Value} {p : Prg} (h : Has RPrg H cs p) : ∃ u1 u2 u3 u4, cs = [u1, u2, u3, u4] ∧ Has RSS H [u1] p.1 ∧ Has RS H [u2] p.2.1 ∧ Has RSS H [u3] p.2.2.1 ∧ Has RS H [u4] p.2.2.2 := by
  obtain ⟨bs, b1, b2, c1, c2, hb, rfl, h1, b3, b4, c3, c4, hb2, rfl, h3, b5, b6, c5, c6, hb3, rfl, h5, h6⟩ := h
  obtain ⟨u1, rfl⟩ := List.length_eq_one_iff.1 (RSS.len h1)
  obtain ⟨u2, rfl⟩ := List.length_eq_one_iff.1 (RS.len h3)
  obtain ⟨u3, rfl⟩ := List.length_eq_one_iff.1 (RSS.len h5)
  obtain ⟨u4, rfl⟩ := List.length_eq_one_iff.1 (RS.len h6)
  exact ⟨u1, u2, u3, u4, rfl, ⟨_, h1⟩, ⟨_, h3⟩, ⟨_, h5⟩, ⟨_, h6⟩⟩

end Go.Proofs.Ytioleipoomgmhaa
