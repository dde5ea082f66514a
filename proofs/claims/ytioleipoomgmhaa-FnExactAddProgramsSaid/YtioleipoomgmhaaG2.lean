/- Programs with changed numbers, as plain values; limitedProgram. No condition. -/
import Derived.Test.YtioleipoomgmhaaP1
import Derived.Test.YtioleipoomgmhaaD3
namespace Go.Proofs.Ytioleipoomgmhaa
open Go.Ab

/- loop.example/g01343/impl.limitedProgram -/
def f55.w (Q : Post) (p_0 : Value) (H : Heap) : Prop :=
  W.box p_0 41 H fun v1 H =>
  W.new [(.slice none 0 0), (.slice none 0 0), (.slice none 0 0), (.slice none 0 0)] 41 H fun v2 H =>
  W.getN 4 v1 H fun v3 H =>
  W.call Try.prog (.func (.func 50) #[] #[]) #[v3] H fun v4 H =>
  W.un .not v4 H fun v5 H =>
  W.cond v5 H
  (fun H => W.build [(.slice none 0 0), (.slice none 0 0), (.slice none 0 0), (.slice none 0 0)] [] H fun v6 H =>
   W.putN 4 v2 v6 H fun _ H =>
   W.getN 4 v2 H fun v7 H => Q (.tuple #[v7, (.int .i64 3)]) H)
  (fun H => W.getN 4 v1 H fun v8 H =>
   W.putN 4 v2 v8 H fun _ H =>
   W.getN 4 v2 H fun v9 H => Q (.tuple #[v9, (.int .i64 0)]) H)
theorem f55.enter {Q : Post} {p_0 : Value} {H : Heap} (h : f55.w Q p_0 H) : Runs Try.prog 55 #[p_0] H Q :=
  fn_enter (ann := []) (by kernel_rfl) Try.func55 rfl (by kernel_rfl) h (by kernel_rfl)


abbrev zPrg : Prg := ([], [], [], [])
abbrev zCells4 : List Value := [.slice none 0 0, .slice none 0 0, .slice none 0 0, .slice none 0 0]

theorem fn55 {H0 : Heap} {Q : Post} {cs : List Value} {p : Prg} (hr : Has RPrg H0 cs p) (hw : wPrg p ≤ 1048576) (h1 : IsPrg p → ∀ H', H0.Le H' → Q (.tuple #[.agg cs.toArray, .int .i64 0]) H')
    (h2 : ¬ IsPrg p → ∀ H', H0.Le H' → Q (.tuple #[.agg zCells4.toArray, .int .i64 3]) H') : Runs Try.prog 55 #[.agg cs.toArray] H0 Q := by
  refine f55.enter ?_
  unfold f55.w
  have h := (Loc.start H0).lent hr
  have hl := hr.len
  refine Wl.box h fun H b h => Wl.new h fun H b2 h => Wl.getA h hl (Wi.call (fn50 h.rd hw fun H t l ht => ?_))
  have h := h.to l
  cases t with
  | false =>
    simp only [g7, g10]
    exact Wi.build (cells := zCells4) rfl (Wl.putA h rfl rfl rfl fun H h => Wl.getA h rfl (h2 (fun g => Bool.noConfusion (ht.2 g)) _ h.le))
  | true =>
    simp only [g8, g9]
    exact Wl.getA h hl (Wl.putA h rfl hl hr.cell fun H h => Wl.getA h hl (h1 (ht.1 rfl) _ h.le))

theorem isPrg_sz {p : Prg} (h : IsPrg p) : szSS p.1 + szS p.2.1 + szSS p.2.2.1 + szS p.2.2.2 ≤ 1048576 := by
  have := h.n1; have := h.nm; have := h.dl; have := h.al
  have h1 : szSS p.1 ≤ p.1.length * 5 := szl_le _ fun r hr => by rw [szS_len, (h.d r hr).1]; omega
  have h2 : szSS p.2.2.1 ≤ p.2.2.1.length * 5 := szl_le _ fun r hr => by rw [szS_len, (h.a r hr).1]; omega
  rw [szS_len, szS_len]
  omega

/-- What is told of a program: itself if it is one. -/
noncomputable def limRes (p : Prg) : Prg × Int := open Classical in if IsPrg p then (p, 0) else (zPrg, 3)

theorem limRes_sz (p : Prg) : szSS (limRes p).1.1 + szS (limRes p).1.2.1 + szSS (limRes p).1.2.2.1 + szS (limRes p).1.2.2.2 ≤ 1048576 := by
  unfold limRes
  split
  · rename_i h; exact isPrg_sz h
  · decide

/-- Four things of one struct, as what was made. -/
theorem Loc.ret4 {H0 H : Heap} {L : List (Atom H0.next)} (h : Ab.Loc H0 L H) {c1 c2 c3 c4 : List Value} {p : Prg} {i1 i2 i3 i4 : Nat} (h1 : L[i1]? = some (.data RSS c1 p.1)) (h2 : L[i2]? = some (.data RS c2 p.2.1)) (h3 : L[i3]? = some (.data RSS c3 p.2.2.1)) (h4 : L[i4]? = some (.data RS c4 p.2.2.2))
    (hne : i1 ≠ i2 ∧ i1 ≠ i3 ∧ i1 ≠ i4 ∧ i2 ≠ i3 ∧ i2 ≠ i4 ∧ i3 ≠ i4) : Fresh RPrg H0 (c1 ++ (c2 ++ (c3 ++ c4))) p H := by
  obtain ⟨n1, n2, n3, n4, n5, n6⟩ := hne
  have l1 := (List.getElem?_eq_some_iff.1 h1).1
  have l2 := (List.getElem?_eq_some_iff.1 h2).1
  have l3 := (List.getElem?_eq_some_iff.1 h3).1
  have g1 := h.pair h3 h4 n6
  have e1 : ((L.set i3 (.data (RSS.pair RS) (c3 ++ c4) (p.2.2.1, p.2.2.2))).set i4 .emp)[i3]? = some (.data (RSS.pair RS) (c3 ++ c4) (p.2.2.1, p.2.2.2)) := by
    rw [List.getElem?_set_ne (fun e => n6 e.symm), List.getElem?_set_self l3]
  have e2 : ((L.set i3 (.data (RSS.pair RS) (c3 ++ c4) (p.2.2.1, p.2.2.2))).set i4 .emp)[i2]? = some (.data RS c2 p.2.1) := by
    rw [List.getElem?_set_ne (fun e => n5 e.symm), List.getElem?_set_ne (fun e => n4 e.symm)]; exact h2
  have g2 := g1.pair e2 e1 n4
  refine (g2.ret2 (i := i1) (j := i2) ?_ ?_ n1)
  · rw [List.getElem?_set_ne (fun e => n2 e.symm), List.getElem?_set_ne (fun e => n1 e.symm), List.getElem?_set_ne (fun e => n3 e.symm), List.getElem?_set_ne (fun e => n2 e.symm)]
    exact h1
  · rw [List.getElem?_set_ne (fun e => n4 e.symm), List.getElem?_set_self (by simp; exact l2)]

end Go.Proofs.Ytioleipoomgmhaa
