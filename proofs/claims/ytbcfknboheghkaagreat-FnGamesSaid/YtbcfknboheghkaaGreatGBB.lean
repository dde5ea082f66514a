/- The laws' helpers for problems. No condition. -/
import Derived.Test.YtbcfknboheghkaaGreatGAA
import Derived.Test.YtbcfknboheghkaaGreatZabG5
namespace Go.Proofs.YtbcfknboheghkaaGreat
open Go.Ab



abbrev RProblem : Rd (List (List Int) × List Int) := Rd.pair RSS RS
abbrev Prob := List (List Int) × List Int
abbrev mkProblem := mkp mkSS szSS mkS
abbrev szProblem := szp szSS szS
abbrev wProblem := szp wSS (List.length (α := Int))

theorem prob_cells {H : Heap} {bs : List Nat} {cs : List Value} {p : Prob} (h : RProblem.rel H bs cs p) : ∃ u1 u2 b1 b2, cs = [u1, u2] ∧ bs = b1 ++ b2 ∧ RSS.rel H b1 [u1] p.1 ∧ RS.rel H b2 [u2] p.2 := by
  obtain ⟨b1, b2, c1, c2, hb, hc, h1, h2⟩ := h
  obtain ⟨u1, rfl⟩ := List.length_eq_one_iff.1 (RSS.len h1)
  obtain ⟨u2, rfl⟩ := List.length_eq_one_iff.1 (RS.len h2)
  exact ⟨u1, u2, b1, b2, hc, hb, h1, h2⟩

theorem hasProb {H : Heap} {cs : List Value} {p : Prob} (h : Has RProblem H cs p) : ∃ u1 u2, cs = [u1, u2] ∧ Has RSS H [u1] p.1 ∧ Has RS H [u2] p.2 := by
  obtain ⟨bs, h⟩ := h
  obtain ⟨u1, u2, b1, b2, h1, _, h3, h4⟩ := prob_cells h
  exact ⟨u1, u2, h1, ⟨_, h3⟩, ⟨_, h4⟩⟩

end Go.Proofs.YtbcfknboheghkaaGreat
/-! The laws' helpers for games. No condition. -/
namespace Go.Proofs.YtbcfknboheghkaaGreat
open Go.Ab



abbrev RGame : Rd (List (List Int) × List (List Int)) := Rd.pair RSS RSS
abbrev Game := List (List Int) × List (List Int)
abbrev mkGame := mkp mkSS szSS mkSS
abbrev szGame := szp szSS szSS
abbrev wGame := szp wSS wSS

theorem hasGame {H : Heap} {cs : List Value} {p : Game} (h : Has RGame H cs p) : ∃ u1 u2, cs = [u1, u2] ∧ Has RSS H [u1] p.1 ∧ Has RSS H [u2] p.2 := by
  obtain ⟨bs, b1, b2, c1, c2, hb, hc, h1, h2⟩ := h
  obtain ⟨u1, rfl⟩ := List.length_eq_one_iff.1 (RSS.len h1)
  obtain ⟨u2, rfl⟩ := List.length_eq_one_iff.1 (RSS.len h2)
  exact ⟨u1, u2, hc, ⟨_, h1⟩, ⟨_, h2⟩⟩

end Go.Proofs.YtbcfknboheghkaaGreat

/-! The contract of l01Own. No condition. -/
namespace Go.Proofs.YtbcfknboheghkaaGreat
open Go.Ab

/- loop.example/g01343/spec.l01Own -/
def f107.w (Q : Post) (list_0 : Value) (H : Heap) : Prop :=
  W.lit 0 [(.int .i64 0)] 2 [] H fun v1 H =>
  W.append 1 2 v1 list_0 H fun v2 H =>
  Q v2 H
theorem f107.enter {Q : Post} {list_0 : Value} {H : Heap} (h : f107.w Q list_0 H) : Runs Tryz.prog 107 #[list_0] H Q :=
  fn_enter (ann := []) (by kernel_rfl) Tryz.func107 rfl (by kernel_rfl) h (by kernel_rfl)


theorem fn107 {H0 : Heap} {Q : Post} {v : Value} {xs : List Int} (hr : Has RS H0 [v] xs) (hlen : xs.length ≤ 16777216) (hQ : ∀ H' u, FreshG Rd.int 2 H0 u xs H' → Q u H') : Runs Tryz.prog 107 #[v] H0 Q :=
  f107.enter (Wl.lit0 Rd.int rfl ((Loc.start H0).lent hr) fun H u h => Wl.appendH (i := 0) rfl h rfl h.rd (by simpa using hlen) fun H' v' h => hQ _ _ (h.retGG (i := 0) rfl))

end Go.Proofs.YtbcfknboheghkaaGreat

/-! The laws' helpers for programs. No condition. -/
namespace Go.Proofs.YtbcfknboheghkaaGreat
open Go.Ab



abbrev Prg := List (List Int) × List Int × List (List Int) × List Int
abbrev RPrg : Rd Prg := Rd.pair RSS (Rd.pair RS (Rd.pair RSS RS))

abbrev wPrg := szp wSS (szp (List.length (α := Int)) (szp wSS (List.length (α := Int))))

end Go.Proofs.YtbcfknboheghkaaGreat
